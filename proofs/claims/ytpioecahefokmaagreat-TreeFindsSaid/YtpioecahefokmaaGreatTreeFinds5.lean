/- A part of the proof: Tz0. -/
import Derived.Test.YtpioecahefokmaaGreatTreeFinds4
set_option linter.unusedSimpArgs false
set_option linter.unusedVariables false
section
set_option maxRecDepth 4000
namespace Go.AB
open Go
theorem lit_t {X A B : Prop} (h : X → A) : X → (true = true → A) ∧ (true = false → B) := fun x => ⟨fun _ => h x, fun e => (by cases e)⟩
theorem lit_f {X A B : Prop} (h : X → B) : X → (false = true → A) ∧ (false = false → B) := fun x => ⟨fun e => (by cases e), fun _ => h x⟩
theorem lit_t2 {X A B : Prop} (h : X → A) : X → (True → A) ∧ (true = false → B) := fun x => ⟨fun _ => h x, fun e => (by cases e)⟩
theorem lit_f2 {X A B : Prop} (h : X → B) : X → (false = true → A) ∧ (True → B) := fun x => ⟨fun e => (by cases e), fun _ => h x⟩
structure api_Object where
  V : api_Value
  Stream : Bool
  Data : Str
instance : Enc api_Object := ⟨6, fun x => [.int .i64 x.V.Kind, .int .i64 x.V.N, .str x.V.S.b, .sl false 4 x.V.L.length (flat x.V.L), .bool x.Stream, .str x.Data.b], (api_Object.mk (api_Value.mk 0 0 (Str.mk []) []) false (Str.mk [])), by decide, fun _ => rfl, fun _ => rfl⟩
@[go_sem] theorem cells_api_Object (x : api_Object) : Enc.cells x = [.int .i64 x.V.Kind, .int .i64 x.V.N, .str x.V.S.b, .sl false 4 x.V.L.length (flat x.V.L), .bool x.Stream, .str x.Data.b] := rfl
@[go_sem] theorem w_api_Object : Enc.w api_Object = 6 := rfl
@[go_sem] theorem pad_api_Object (l : List api_Object) (i : Int) : pad [.int .i64 0, .int .i64 0, .str [], .sl false 4 0 [], .bool false, .str []] (views (AB.sub (flat l) (i.toNat * 6) 6)) = [.int .i64 (((ix l i).V).Kind), .int .i64 (((ix l i).V).N), .str (((ix l i).V).S).b, .sl false 4 (((ix l i).V).L).length (flat (((ix l i).V).L)), .bool ((ix l i).Stream), .str ((ix l i).Data).b] := by
  rw [← cells_api_Object]; exact flat_pad _ 6 l i (by rw [cells_api_Object]; rfl) rfl
@[go_sem] theorem mk_api_Object (x : api_Object) : api_Object.mk x.V x.Stream x.Data = x := by cases x; rfl
structure api_Doc where
  Objects : (List api_Object)
  Root : Int
instance : Enc api_Doc := ⟨2, fun x => [.sl false 6 x.Objects.length (flat x.Objects), .int .i64 x.Root], (api_Doc.mk [] 0), by decide, fun _ => rfl, fun _ => rfl⟩
@[go_sem] theorem cells_api_Doc (x : api_Doc) : Enc.cells x = [.sl false 6 x.Objects.length (flat x.Objects), .int .i64 x.Root] := rfl
@[go_sem] theorem w_api_Doc : Enc.w api_Doc = 2 := rfl
@[go_sem] theorem pad_api_Doc (l : List api_Doc) (i : Int) : pad [.sl false 6 0 [], .int .i64 0] (views (AB.sub (flat l) (i.toNat * 2) 2)) = [.sl false 6 ((ix l i).Objects).length (flat ((ix l i).Objects)), .int .i64 ((ix l i).Root)] := by
  rw [← cells_api_Doc]; exact flat_pad _ 2 l i (by rw [cells_api_Doc]; rfl) rfl
@[go_sem] theorem mk_api_Doc (x : api_Doc) : api_Doc.mk x.Objects x.Root = x := by cases x; rfl
/-- catchword/catchwordref11.Few -/
def ref11_Few : Nat → api_Value → Int → Option (Int)
  | 0, _, _ => none
  | fuel + 1, v_0, left_1 =>
    jn (
      iter (fun ((left2, k3) : Int × Int) =>
        if (decide (k3 < (v_0.L.length : Int))) && (decide (left2 ≥ 0)) then
          need (0 ≤ k3 ∧ k3 < v_0.L.length) <|
          bnd (ref11_Few fuel (ix v_0.L k3) left2) fun r5 =>
          some (.inl (r5, w64 (k3 + 1)))
        else
          some (.inr left2)) (w64 (left_1 - 1), 0)) fun (left1 : Int) =>
    some left1
def ir_ref11_Few : IC :=
 (.seq (.reg none [i1 2 (.boxL 4 (.t 0)),
 i1 4 (.mov false (.c (.int .i64 0)))] [1, 2])
 (.seq (.reg none [mv 6 1,
 i1 7 (.bin .sub (.t 6) (.c (.int .i64 1))),
 mv 1 7] [1, 2])
 (.join [(1, false)] (.seq (.reg none [i1 5 (.mov false (.c (.int .i64 0)))] [1, 2, 5])
 (.block 0 (.loop [(1, false), (2, false), (5, false)] (.seq (.seq (.reg none [mv 8 5,
 i1 9 (.fieldAddr 3 (.t 2)),
 i1 10 (.load 1 false (.t 9)),
 i1 11 (.len 0 (.t 10)),
 i1 12 (.bin .lss (.t 8) (.t 11)),
 mv 13 12,
 mvg 14 1 13 true,
 i1g 15 13 true (.bin .geq (.t 14) (.c (.int .i64 0))),
 i1 16 (.pick (.t 13) (.t 15) (.c (.bool false)))] [1, 2, 5, 16])
 (.cond (.t 16) .skip
 (.exit 0)))
 (.seq (.block 1 (.reg none [i1 19 (.fieldAddr 3 (.t 2)),
 i1 20 (.load 1 false (.t 19)),
 mv 21 5,
 i1 22 (.indexAddr [.int .i64 0, .int .i64 0, .str [], .sl false 4 0 []] (.t 20) (.t 21)),
 i1 23 (.load 4 true (.t 22)),
 mv 24 1,
 i1 25 (.call 26 [(.t 23), (.t 24)]),
 mv 1 25] [1, 2, 5]))
 (.reg none [mv 17 5,
 i1 18 (.bin .add (.t 17) (.c (.int .i64 1))),
 mv 5 18] [1, 2, 5]))))))
 (.seq (.reg none [mv 26 1,
 mv 4 26] [4])
 .ret))))
def res_ref11_Few : List IRes := [⟨4, true, none⟩]
theorem is_ref11_Few : fnIs Go.Proofs.Tryz.prog 26 27 res_ref11_Few ir_ref11_Few = true := by kernel_rfl
theorem ref11_Few_fn {fuel : Nat} : ∀ {v_0 : api_Value} {left_1 : Int} {s : Store} {Q : List AV → Store → Prop}, ok (ref11_Few fuel v_0 left_1) (fun r => Q [.int .i64 r] s) → FN Go.Proofs.Tryz.prog 26 [.agg [.int .i64 v_0.Kind, .int .i64 v_0.N, .str v_0.S.b, .sl false 4 v_0.L.length (flat v_0.L)], .int .i64 left_1] s Q := by
  induction fuel with
  | zero => intros; rename_i h; rw [ref11_Few] at h; exact absurd h (by rw [ok_none]; exact fun h => h)
  | succ fuel ih =>
  have ihfe : ∀ {v_0 : api_Value} {left_1 : Int} {s : Store} {r : Int}, ref11_Few fuel v_0 left_1 = some r → FE Go.Proofs.Tryz.prog 26 [.agg [.int .i64 v_0.Kind, .int .i64 v_0.N, .str v_0.S.b, .sl false 4 v_0.L.length (flat v_0.L)], .int .i64 left_1] s [.int .i64 r] s := fun h => ih ⟨_, h, rfl, rfl⟩
  intro v_0 left_1 s Q
  intro h
  refine FN.of (draw_ok mix) is_ref11_Few rfl (Nat.le_of_ble_eq_true rfl) ?_
  revert h
  rw [ir_ref11_Few, res_ref11_Few, ref11_Few]
  repeat' (first
    | with_reducible exact tt_to
    | with_reducible refine and_to ?_ ?_
    | with_reducible refine im_to ?_
    | with_reducible refine call_to (fun _ (h : ref11_Few fuel (ix v_0.L k3) left2 = some _) => ihfe h) (fun r5 => ?_)
    | with_reducible refine call_to_q (fun _ (h : ref11_Few fuel (ix v_0.L k3) left2 = some _) => ihfe h) (fun _ => rfl) (fun r5 => ?_)
    | with_reducible refine call_to (fun _ (h : ref11_Few fuel (ix v_0.L k3) left2 = some _) => (by refine FE_cast ?_ (ihfe h); simp -implicitDefEqProofs only [go_sem, start, startE, resVs, resV, resC, allV, retK, Nat.reduceBEq, Nat.reduceAdd, Nat.reduceMul, Nat.reduceLeDiff, Nat.reduceEqDiff, Nat.reduceBNe, Nat.ble_eq, UInt8.reduceToNat])) (fun r5 => ?_)
    | with_reducible refine call_to_q (fun _ (h : ref11_Few fuel (ix v_0.L k3) left2 = some _) => (by refine FE_cast ?_ (ihfe h); simp -implicitDefEqProofs only [go_sem, start, startE, resVs, resV, resC, allV, retK, Nat.reduceBEq, Nat.reduceAdd, Nat.reduceMul, Nat.reduceLeDiff, Nat.reduceEqDiff, Nat.reduceBNe, Nat.ble_eq, UInt8.reduceToNat])) (fun _ => rfl) (fun r5 => ?_)
    | with_reducible refine call_to (fun _ (h : ref11_Few fuel (ix v_0.L k3) left2 = some _) => (by have hx := ihfe (s := s) h; simp -implicitDefEqProofs only [go_sem, start, startE, resVs, resV, resC, allV, retK, Nat.reduceBEq, Nat.reduceAdd, Nat.reduceMul, Nat.reduceLeDiff, Nat.reduceEqDiff, Nat.reduceBNe, Nat.ble_eq, UInt8.reduceToNat] at hx; exact hx)) (fun r5 => ?_)
    | ((with_reducible refine iter_to (fun ((left2, k3) : Int × Int) => ⟨[(1, .int .i64 left2), (2, .loc [.int .i64 v_0.Kind, .int .i64 v_0.N, .str v_0.S.b, .sl false 4 v_0.L.length (flat v_0.L)]), (5, .int .i64 k3)], [], s⟩) ?_ ?_); (first | exact rfl | simp -implicitDefEqProofs only [go_sem, start, startE, resVs, resV, resC, allV, retK, Nat.reduceBEq, Nat.reduceAdd, Nat.reduceMul, Nat.reduceLeDiff, Nat.reduceEqDiff, Nat.reduceBNe, Nat.ble_eq, UInt8.reduceToNat]); rintro J ⟨left2, k3⟩)
    | ((with_reducible refine join_to (fun (left1 : Int) => ⟨[(1, .int .i64 left1)], [], s⟩) (fun J => ?_) ?_); rotate_left; rintro left1)
    | simp -implicitDefEqProofs only [go_sem, start, startE, resVs, resV, resC, allV, retK, Nat.reduceBEq, Nat.reduceAdd, Nat.reduceMul, Nat.reduceLeDiff, Nat.reduceEqDiff, Nat.reduceBNe, Nat.ble_eq, UInt8.reduceToNat])
theorem ref11_Few_fe {fuel : Nat} {v_0 left_1} {s : Store} {r : Int} (h : ref11_Few fuel v_0 left_1 = some r) : FE Go.Proofs.Tryz.prog 26 [.agg [.int .i64 v_0.Kind, .int .i64 v_0.N, .str v_0.S.b, .sl false 4 v_0.L.length (flat v_0.L)], .int .i64 left_1] s [.int .i64 r] s := ref11_Few_fn ⟨r, h, rfl, rfl⟩
/-- catchword/catchwordref14.texts -/
def ref14_texts : Nat → api_Value → Option (Bool)
  | 0, _ => none
  | fuel + 1, v_0 =>
    jnS (
      bndS (
        iter (fun (k3 : Int) =>
          if decide (k3 < (v_0.L.length : Int)) then
            need (0 ≤ k3 ∧ k3 < v_0.L.length) <|
            bnd (ref14_texts fuel (ix v_0.L k3)) fun r6 =>
            if !r6 then
              some (.inr (.inr false))
            else
              some (.inl (w64 (k3 + 1)))
          else
            some (.inr (.inl ()))) 0) (fun (_ : Unit) =>
        some (.inl ()))
      (fun (t5 : Bool) => some (.inr t5))) (fun (_ : Unit) =>
      some (decide ((v_0.S.b.length : Int) ≤ 300)))
    (fun (t2 : Bool) => some t2)
def ir_ref14_texts : IC :=
 (.seq (.reg none [i1 1 (.boxL 4 (.t 0)),
 i1 2 (.mov false (.c (.bool false)))] [1])
 (.join [(1, false)] (.seq (.reg none [i1 3 (.mov false (.c (.int .i64 0)))] [1, 3])
 (.block 0 (.loop [(1, false), (3, false)] (.seq (.seq (.reg none [mv 4 3,
 i1 5 (.fieldAddr 3 (.t 1)),
 i1 6 (.load 1 false (.t 5)),
 i1 7 (.len 0 (.t 6)),
 i1 8 (.bin .lss (.t 4) (.t 7))] [1, 3, 8])
 (.cond (.t 8) .skip
 (.exit 0)))
 (.seq (.block 1 (.seq (.reg none [i1 11 (.fieldAddr 3 (.t 1)),
 i1 12 (.load 1 false (.t 11)),
 mv 13 3,
 i1 14 (.indexAddr [.int .i64 0, .int .i64 0, .str [], .sl false 4 0 []] (.t 12) (.t 13)),
 i1 15 (.load 4 true (.t 14)),
 i1 16 (.call 52 [(.t 15)]),
 i1 17 (.un .not (.t 16))] [1, 3, 17])
 (.cond (.t 17) (.seq (.reg none [i1 2 (.mov false (.c (.bool false)))] [2])
 .ret)
 .skip)))
 (.reg none [mv 9 3,
 i1 10 (.bin .add (.t 9) (.c (.int .i64 1))),
 mv 3 10] [1, 3]))))))
 (.seq (.reg none [i1 18 (.fieldAddr 2 (.t 1)),
 i1 19 (.load 1 false (.t 18)),
 i1 20 (.len 1 (.t 19)),
 i1 21 (.bin .leq (.t 20) (.c (.int .i64 300))),
 mv 2 21] [2])
 .ret)))
def res_ref14_texts : List IRes := [⟨2, true, none⟩]
theorem is_ref14_texts : fnIs Go.Proofs.Tryz.prog 52 22 res_ref14_texts ir_ref14_texts = true := by kernel_rfl
theorem ref14_texts_fn {fuel : Nat} : ∀ {v_0 : api_Value} {s : Store} {Q : List AV → Store → Prop}, ok (ref14_texts fuel v_0) (fun r => Q [.bool r] s) → FN Go.Proofs.Tryz.prog 52 [.agg [.int .i64 v_0.Kind, .int .i64 v_0.N, .str v_0.S.b, .sl false 4 v_0.L.length (flat v_0.L)]] s Q := by
  induction fuel with
  | zero => intros; rename_i h; rw [ref14_texts] at h; exact absurd h (by rw [ok_none]; exact fun h => h)
  | succ fuel ih =>
  have ihfe : ∀ {v_0 : api_Value} {s : Store} {r : Bool}, ref14_texts fuel v_0 = some r → FE Go.Proofs.Tryz.prog 52 [.agg [.int .i64 v_0.Kind, .int .i64 v_0.N, .str v_0.S.b, .sl false 4 v_0.L.length (flat v_0.L)]] s [.bool r] s := fun h => ih ⟨_, h, rfl, rfl⟩
  intro v_0 s Q
  intro h
  refine FN.of (draw_ok mix) is_ref14_texts rfl (Nat.le_of_ble_eq_true rfl) ?_
  revert h
  rw [ir_ref14_texts, res_ref14_texts, ref14_texts]
  repeat' (first
    | with_reducible exact tt_to
    | with_reducible refine and_to ?_ ?_
    | with_reducible refine im_to ?_
    | with_reducible refine call_to (fun _ (h : ref14_texts fuel (ix v_0.L k3) = some _) => ihfe h) (fun r6 => ?_)
    | with_reducible refine call_to_q (fun _ (h : ref14_texts fuel (ix v_0.L k3) = some _) => ihfe h) (fun _ => rfl) (fun r6 => ?_)
    | with_reducible refine call_to (fun _ (h : ref14_texts fuel (ix v_0.L k3) = some _) => (by refine FE_cast ?_ (ihfe h); simp -implicitDefEqProofs only [go_sem, start, startE, resVs, resV, resC, allV, retK, Nat.reduceBEq, Nat.reduceAdd, Nat.reduceMul, Nat.reduceLeDiff, Nat.reduceEqDiff, Nat.reduceBNe, Nat.ble_eq, UInt8.reduceToNat])) (fun r6 => ?_)
    | with_reducible refine call_to_q (fun _ (h : ref14_texts fuel (ix v_0.L k3) = some _) => (by refine FE_cast ?_ (ihfe h); simp -implicitDefEqProofs only [go_sem, start, startE, resVs, resV, resC, allV, retK, Nat.reduceBEq, Nat.reduceAdd, Nat.reduceMul, Nat.reduceLeDiff, Nat.reduceEqDiff, Nat.reduceBNe, Nat.ble_eq, UInt8.reduceToNat])) (fun _ => rfl) (fun r6 => ?_)
    | with_reducible refine call_to (fun _ (h : ref14_texts fuel (ix v_0.L k3) = some _) => (by have hx := ihfe (s := s) h; simp -implicitDefEqProofs only [go_sem, start, startE, resVs, resV, resC, allV, retK, Nat.reduceBEq, Nat.reduceAdd, Nat.reduceMul, Nat.reduceLeDiff, Nat.reduceEqDiff, Nat.reduceBNe, Nat.ble_eq, UInt8.reduceToNat] at hx; exact hx)) (fun r6 => ?_)
    | ((with_reducible refine iter_to (fun (k3 : Int) => ⟨[(1, .loc [.int .i64 v_0.Kind, .int .i64 v_0.N, .str v_0.S.b, .sl false 4 v_0.L.length (flat v_0.L)]), (3, .int .i64 k3)], [], s⟩) ?_ ?_); (first | exact rfl | simp -implicitDefEqProofs only [go_sem, start, startE, resVs, resV, resC, allV, retK, Nat.reduceBEq, Nat.reduceAdd, Nat.reduceMul, Nat.reduceLeDiff, Nat.reduceEqDiff, Nat.reduceBNe, Nat.ble_eq, UInt8.reduceToNat]); rintro J k3)
    | ((with_reducible refine join_toS (fun (_ : Unit) => ⟨[(1, .loc [.int .i64 v_0.Kind, .int .i64 v_0.N, .str v_0.S.b, .sl false 4 v_0.L.length (flat v_0.L)])], [], s⟩) (fun J => ?_) ?_); rotate_left; rintro _)
    | simp -implicitDefEqProofs only [go_sem, start, startE, resVs, resV, resC, allV, retK, Nat.reduceBEq, Nat.reduceAdd, Nat.reduceMul, Nat.reduceLeDiff, Nat.reduceEqDiff, Nat.reduceBNe, Nat.ble_eq, UInt8.reduceToNat])
theorem ref14_texts_fe {fuel : Nat} {v_0} {s : Store} {r : Bool} (h : ref14_texts fuel v_0 = some r) : FE Go.Proofs.Tryz.prog 52 [.agg [.int .i64 v_0.Kind, .int .i64 v_0.N, .str v_0.S.b, .sl false 4 v_0.L.length (flat v_0.L)]] s [.bool r] s := ref14_texts_fn ⟨r, h, rfl, rfl⟩
/-- catchword/catchwordref14.Few -/
def ref14_Few (o_0 : api_Object) (data_1 : Int) : Option (Bool) :=
  bnd (ref11_Few bigN o_0.V 300) fun r1 =>
  bnd (whenB ((decide (r1 ≥ 0)) && (decide ((o_0.Data.b.length : Int) ≤ data_1))) false (ref14_texts bigN o_0.V)) fun r2 =>
  some (((decide (r1 ≥ 0)) && (decide ((o_0.Data.b.length : Int) ≤ data_1))) && r2)
def ir_ref14_Few : IC :=
 (.seq (.reg none [i1 2 (.boxL 6 (.t 0)),
 i1 4 (.mov false (.c (.bool false)))] [1, 2])
 (.seq (.reg (some 15) [i1 5 (.fieldAddr 0 (.t 2)),
 i1 6 (.load 4 true (.t 5)),
 i1 7 (.call 26 [(.t 6), (.c (.int .i64 300))]),
 i1 8 (.bin .geq (.t 7) (.c (.int .i64 0))),
 mv 9 8,
 i1g 10 9 true (.fieldAddr 5 (.t 2)),
 i1g 11 9 true (.load 1 false (.t 10)),
 i1g 12 9 true (.len 1 (.t 11)),
 mvg 13 1 9 true,
 i1g 14 9 true (.bin .leq (.t 12) (.t 13)),
 i1 15 (.pick (.t 9) (.t 14) (.c (.bool false))),
 mv 16 15,
 i1g 17 16 true (.fieldAddr 0 (.t 2)),
 i1g 18 16 true (.load 4 true (.t 17)),
 i1g 19 16 true (.call 52 [(.t 18)]),
 i1 20 (.pick (.t 16) (.t 19) (.c (.bool false))),
 mv 4 20] [4])
 .ret))
def res_ref14_Few : List IRes := [⟨4, true, none⟩]
theorem is_ref14_Few : fnIs Go.Proofs.Tryz.prog 25 21 res_ref14_Few ir_ref14_Few = true := by kernel_rfl
theorem ref14_Few_fn {o_0 data_1} {s : Store} {Q : List AV → Store → Prop}  : ok (ref14_Few o_0 data_1) (fun r => Q [.bool r] s) → FN Go.Proofs.Tryz.prog 25 [.agg [.int .i64 o_0.V.Kind, .int .i64 o_0.V.N, .str o_0.V.S.b, .sl false 4 o_0.V.L.length (flat o_0.V.L), .bool o_0.Stream, .str o_0.Data.b], .int .i64 data_1] s Q := by
  intro h
  refine FN.of (draw_ok mix) is_ref14_Few rfl (Nat.le_of_ble_eq_true rfl) ?_
  revert h
  rw [ir_ref14_Few, res_ref14_Few, ref14_Few]
  repeat' (first
    | with_reducible exact tt_to
    | with_reducible refine and_to ?_ ?_
    | with_reducible refine im_to ?_
    | with_reducible refine call_to (fun _ (h : ref11_Few bigN o_0.V 300 = some _) => ref11_Few_fe h) (fun r1 => ?_)
    | with_reducible refine call_to_q (fun _ (h : ref11_Few bigN o_0.V 300 = some _) => ref11_Few_fe h) (fun _ => rfl) (fun r1 => ?_)
    | with_reducible refine call_to (fun _ (h : ref11_Few bigN o_0.V 300 = some _) => (by refine FE_cast ?_ (ref11_Few_fe h); simp -implicitDefEqProofs only [go_sem, start, startE, resVs, resV, resC, allV, retK, Nat.reduceBEq, Nat.reduceAdd, Nat.reduceMul, Nat.reduceLeDiff, Nat.reduceEqDiff, Nat.reduceBNe, Nat.ble_eq, UInt8.reduceToNat])) (fun r1 => ?_)
    | with_reducible refine call_to_q (fun _ (h : ref11_Few bigN o_0.V 300 = some _) => (by refine FE_cast ?_ (ref11_Few_fe h); simp -implicitDefEqProofs only [go_sem, start, startE, resVs, resV, resC, allV, retK, Nat.reduceBEq, Nat.reduceAdd, Nat.reduceMul, Nat.reduceLeDiff, Nat.reduceEqDiff, Nat.reduceBNe, Nat.ble_eq, UInt8.reduceToNat])) (fun _ => rfl) (fun r1 => ?_)
    | with_reducible refine call_to_g rfl (fun _ (h : ref14_texts bigN o_0.V = some _) => ref14_texts_fe h) (fun _ => rfl) (fun r2 => ?_)
    | with_reducible refine call_to_g rfl (fun _ (h : ref14_texts bigN o_0.V = some _) => (by refine FE_cast ?_ (ref14_texts_fe h); simp -implicitDefEqProofs only [go_sem, start, startE, resVs, resV, resC, allV, retK, Nat.reduceBEq, Nat.reduceAdd, Nat.reduceMul, Nat.reduceLeDiff, Nat.reduceEqDiff, Nat.reduceBNe, Nat.ble_eq, UInt8.reduceToNat])) (fun _ => rfl) (fun r2 => ?_)
    | simp -implicitDefEqProofs only [go_sem, start, startE, resVs, resV, resC, allV, retK, Nat.reduceBEq, Nat.reduceAdd, Nat.reduceMul, Nat.reduceLeDiff, Nat.reduceEqDiff, Nat.reduceBNe, Nat.ble_eq, UInt8.reduceToNat])
theorem ref14_Few_fe {o_0 data_1} {s : Store} {r : Bool}  (h : ref14_Few o_0 data_1 = some r) : FE Go.Proofs.Tryz.prog 25 [.agg [.int .i64 o_0.V.Kind, .int .i64 o_0.V.N, .str o_0.V.S.b, .sl false 4 o_0.V.L.length (flat o_0.V.L), .bool o_0.Stream, .str o_0.Data.b], .int .i64 data_1] s [.bool r] s := ref14_Few_fn   ⟨r, h, rfl, rfl⟩
/-- catchword/catchwordref19.Few -/
def ref19_Few (l_0 : (List api_Object)) (most_1 : Int) : Option (Bool) :=
  if decide ((l_0.length : Int) > most_1) then
    some false
  else
    jnS (
      bndS (
        iter (fun (k2 : Int) =>
          if decide (k2 < (l_0.length : Int)) then
            need (0 ≤ k2 ∧ k2 < l_0.length) <|
            bnd (ref14_Few (ix l_0 k2) 300) fun r4 =>
            if !r4 then
              some (.inr (.inr false))
            else
              some (.inl (w64 (k2 + 1)))
          else
            some (.inr (.inl ()))) 0) (fun (_ : Unit) =>
        some (.inl ()))
      (fun (t3 : Bool) => some (.inr t3))) (fun (_ : Unit) =>
      some true)
    (fun (t1 : Bool) => some t1)
def ir_ref19_Few : IC :=
 (.seq (.reg none [i1 4 (.mov false (.c (.bool false)))] [0, 1])
 (.seq (.seq (.reg none [mv 6 0,
 i1 7 (.len 0 (.t 6)),
 mv 8 1,
 i1 9 (.bin .gtr (.t 7) (.t 8))] [0, 9])
 (.cond (.t 9) (.seq (.reg none [i1 4 (.mov false (.c (.bool false)))] [4])
 .ret)
 .skip))
 (.join [] (.seq (.reg none [i1 5 (.mov false (.c (.int .i64 0)))] [0, 5])
 (.block 0 (.loop [(0, true), (5, false)] (.seq (.seq (.reg none [mv 10 5,
 mv 11 0,
 i1 12 (.len 0 (.t 11)),
 i1 13 (.bin .lss (.t 10) (.t 12))] [0, 5, 13])
 (.cond (.t 13) .skip
 (.exit 0)))
 (.seq (.block 1 (.seq (.reg none [mv 16 0,
 mv 17 5,
 i1 18 (.indexAddr [.int .i64 0, .int .i64 0, .str [], .sl false 4 0 [], .bool false, .str []] (.t 16) (.t 17)),
 i1 19 (.load 6 true (.t 18)),
 i1 20 (.call 25 [(.t 19), (.c (.int .i64 300))]),
 i1 21 (.un .not (.t 20))] [0, 5, 21])
 (.cond (.t 21) (.seq (.reg none [i1 4 (.mov false (.c (.bool false)))] [4])
 .ret)
 .skip)))
 (.reg none [mv 14 5,
 i1 15 (.bin .add (.t 14) (.c (.int .i64 1))),
 mv 5 15] [0, 5]))))))
 (.seq (.reg none [i1 4 (.mov false (.c (.bool true)))] [4])
 .ret))))
def res_ref19_Few : List IRes := [⟨4, true, none⟩]
theorem is_ref19_Few : fnIs Go.Proofs.Tryz.prog 6 22 res_ref19_Few ir_ref19_Few = true := by kernel_rfl
theorem ref19_Few_fn {l_0 most_1} {s : Store} {Q : List AV → Store → Prop}  : ok (ref19_Few l_0 most_1) (fun r => Q [.bool r] s) → FN Go.Proofs.Tryz.prog 6 [.sl false 6 l_0.length (flat l_0), .int .i64 most_1] s Q := by
  intro h
  refine FN.of (draw_ok mix) is_ref19_Few rfl (Nat.le_of_ble_eq_true rfl) ?_
  revert h
  rw [ir_ref19_Few, res_ref19_Few, ref19_Few]
  repeat' (first
    | with_reducible exact tt_to
    | with_reducible refine and_to ?_ ?_
    | with_reducible refine im_to ?_
    | with_reducible refine call_to (fun _ (h : ref14_Few (ix l_0 k2) 300 = some _) => ref14_Few_fe h) (fun r4 => ?_)
    | with_reducible refine call_to_q (fun _ (h : ref14_Few (ix l_0 k2) 300 = some _) => ref14_Few_fe h) (fun _ => rfl) (fun r4 => ?_)
    | with_reducible refine call_to (fun _ (h : ref14_Few (ix l_0 k2) 300 = some _) => (by refine FE_cast ?_ (ref14_Few_fe h); simp -implicitDefEqProofs only [go_sem, start, startE, resVs, resV, resC, allV, retK, Nat.reduceBEq, Nat.reduceAdd, Nat.reduceMul, Nat.reduceLeDiff, Nat.reduceEqDiff, Nat.reduceBNe, Nat.ble_eq, UInt8.reduceToNat])) (fun r4 => ?_)
    | with_reducible refine call_to_q (fun _ (h : ref14_Few (ix l_0 k2) 300 = some _) => (by refine FE_cast ?_ (ref14_Few_fe h); simp -implicitDefEqProofs only [go_sem, start, startE, resVs, resV, resC, allV, retK, Nat.reduceBEq, Nat.reduceAdd, Nat.reduceMul, Nat.reduceLeDiff, Nat.reduceEqDiff, Nat.reduceBNe, Nat.ble_eq, UInt8.reduceToNat])) (fun _ => rfl) (fun r4 => ?_)
    | ((with_reducible refine iter_to (fun (k2 : Int) => ⟨[(0, .sl false 6 l_0.length (flat l_0)), (5, .int .i64 k2)], [], s⟩) ?_ ?_); (first | exact rfl | simp -implicitDefEqProofs only [go_sem, start, startE, resVs, resV, resC, allV, retK, Nat.reduceBEq, Nat.reduceAdd, Nat.reduceMul, Nat.reduceLeDiff, Nat.reduceEqDiff, Nat.reduceBNe, Nat.ble_eq, UInt8.reduceToNat]); rintro J k2)
    | ((with_reducible refine join_toS (fun (_ : Unit) => ⟨[], [], s⟩) (fun J => ?_) ?_); rotate_left; rintro _)
    | simp -implicitDefEqProofs only [go_sem, start, startE, resVs, resV, resC, allV, retK, Nat.reduceBEq, Nat.reduceAdd, Nat.reduceMul, Nat.reduceLeDiff, Nat.reduceEqDiff, Nat.reduceBNe, Nat.ble_eq, UInt8.reduceToNat])
theorem ref19_Few_fe {l_0 most_1} {s : Store} {r : Bool}  (h : ref19_Few l_0 most_1 = some r) : FE Go.Proofs.Tryz.prog 6 [.sl false 6 l_0.length (flat l_0), .int .i64 most_1] s [.bool r] s := ref19_Few_fn   ⟨r, h, rfl, rfl⟩
/-- catchword/value.RefTo -/
def value_RefTo (n_0 : Int) : Option (api_Value) :=
  some (api_Value.mk 8 n_0 (Str.mk []) ([] : List api_Value))
def ir_value_RefTo : IC :=
 (.seq (.reg none [i1 2 (.allocL [.int .i64 0, .int .i64 0, .str [], .sl true 4 0 []])] [0, 2])
 (.seq (.reg none [mv 3 0,
 i1 4 (.build [.int .i64 0, .int .i64 0, .str [], .sl true 4 0 []] [(0, 1, (.c (.int .i64 8))), (1, 1, (.t 3))]),
 i0 (.store 4 (.t 2) (.t 4))] [2])
 .ret))
def res_value_RefTo : List IRes := [⟨2, false, some (4, true)⟩]
theorem is_value_RefTo : fnIs Go.Proofs.Tryz.prog 28 5 res_value_RefTo ir_value_RefTo = true := by kernel_rfl
theorem value_RefTo_fn {n_0} {s : Store} {Q : List AV → Store → Prop}  : ok (value_RefTo n_0) (fun r => Q [.agg [.int .i64 r.Kind, .int .i64 r.N, .str r.S.b, .sl false 4 r.L.length (flat r.L)]] s) → FN Go.Proofs.Tryz.prog 28 [.int .i64 n_0] s Q := by
  intro h
  refine FN.of (draw_ok mix) is_value_RefTo rfl (Nat.le_of_ble_eq_true rfl) ?_
  revert h
  rw [ir_value_RefTo, res_value_RefTo, value_RefTo]
  repeat' (first
    | with_reducible exact tt_to
    | with_reducible refine and_to ?_ ?_
    | with_reducible refine im_to ?_
    | simp -implicitDefEqProofs only [go_sem, start, startE, resVs, resV, resC, allV, retK, Nat.reduceBEq, Nat.reduceAdd, Nat.reduceMul, Nat.reduceLeDiff, Nat.reduceEqDiff, Nat.reduceBNe, Nat.ble_eq, UInt8.reduceToNat])
theorem value_RefTo_fe {n_0} {s : Store} {r : api_Value}  (h : value_RefTo n_0 = some r) : FE Go.Proofs.Tryz.prog 28 [.int .i64 n_0] s [.agg [.int .i64 r.Kind, .int .i64 r.N, .str r.S.b, .sl false 4 r.L.length (flat r.L)]] s := value_RefTo_fn   ⟨r, h, rfl, rfl⟩
/-- catchword/value.DictOf -/
def value_DictOf (l_0 : (List api_Value)) : Option (api_Value) :=
  jn (
    iter (fun ((v3, i4) : api_Value × Int) =>
      if decide (w64 (i4 + 1) < (l_0.length : Int)) then
        need (0 ≤ i4 ∧ i4 < l_0.length) <|
        need (0 ≤ w64 (i4 + 1) ∧ w64 (i4 + 1) < l_0.length) <|
        bnd (value_Put v3 ((ix l_0 i4).S) (ix l_0 (w64 (i4 + 1)))) fun r7 =>
        some (.inl (r7, w64 (i4 + 2)))
      else
        some (.inr v3)) ((api_Value.mk 7 0 (Str.mk []) ([] : List api_Value)), 0)) fun (v2 : api_Value) =>
  some v2
def ir_value_DictOf : IC :=
 (.seq (.reg none [i1 2 (.allocL [.int .i64 0, .int .i64 0, .str [], .sl true 4 0 []])] [0, 2])
 (.seq (.reg none [i1 5 (.build [.int .i64 0, .int .i64 0, .str [], .sl true 4 0 []] [(0, 1, (.c (.int .i64 7)))]),
 i1 3 (.allocL [.int .i64 0, .int .i64 0, .str [], .sl true 4 0 []]),
 i0 (.store 4 (.t 3) (.t 5))] [0, 2, 3])
 (.join [(2, false), (3, false)] (.seq (.reg none [i1 4 (.mov false (.c (.int .i64 0)))] [0, 2, 3, 4])
 (.block 0 (.loop [(0, true), (2, false), (3, false), (4, false)] (.seq (.seq (.reg none [mv 6 4,
 i1 7 (.bin .add (.t 6) (.c (.int .i64 1))),
 mv 8 0,
 i1 9 (.len 0 (.t 8)),
 i1 10 (.bin .lss (.t 7) (.t 9))] [0, 2, 3, 4, 10])
 (.cond (.t 10) .skip
 (.exit 0)))
 (.seq (.block 1 (.reg (some 12) [i1 13 (.load 4 true (.t 3)),
 mv 14 0,
 mv 15 4,
 i1 16 (.indexAddr [.int .i64 0, .int .i64 0, .str [], .sl false 4 0 []] (.t 14) (.t 15)),
 i1 17 (.fieldAddr 2 (.t 16)),
 i1 18 (.load 1 false (.t 17)),
 mv 19 0,
 mv 20 4,
 i1 21 (.bin .add (.t 20) (.c (.int .i64 1))),
 i1 22 (.indexAddr [.int .i64 0, .int .i64 0, .str [], .sl false 4 0 []] (.t 19) (.t 21)),
 i1 23 (.load 4 true (.t 22)),
 i1 24 (.call 53 [(.t 13), (.t 18), (.t 23)]),
 i0 (.store 4 (.t 3) (.t 24))] [0, 2, 3, 4]))
 (.reg none [mv 11 4,
 i1 12 (.bin .add (.t 11) (.c (.int .i64 2))),
 mv 4 12] [0, 2, 3, 4]))))))
 (.seq (.reg none [i1 25 (.load 4 true (.t 3)),
 i0 (.store 4 (.t 2) (.t 25))] [2])
 .ret))))
def res_value_DictOf : List IRes := [⟨2, false, some (4, true)⟩]
theorem is_value_DictOf : fnIs Go.Proofs.Tryz.prog 29 26 res_value_DictOf ir_value_DictOf = true := by kernel_rfl
theorem value_DictOf_fn {l_0} {s : Store} {Q : List AV → Store → Prop}  : ok (value_DictOf l_0) (fun r => Q [.agg [.int .i64 r.Kind, .int .i64 r.N, .str r.S.b, .sl false 4 r.L.length (flat r.L)]] s) → FN Go.Proofs.Tryz.prog 29 [.sl false 4 l_0.length (flat l_0)] s Q := by
  intro h
  refine FN.of (draw_ok mix) is_value_DictOf rfl (Nat.le_of_ble_eq_true rfl) ?_
  revert h
  rw [ir_value_DictOf, res_value_DictOf, value_DictOf]
  repeat' (first
    | with_reducible exact tt_to
    | with_reducible refine and_to ?_ ?_
    | with_reducible refine im_to ?_
    | with_reducible refine call_to (fun _ (h : value_Put v3 ((ix l_0 i4).S) (ix l_0 (w64 (i4 + 1))) = some _) => value_Put_fe h) (fun r7 => ?_)
    | with_reducible refine call_to_q (fun _ (h : value_Put v3 ((ix l_0 i4).S) (ix l_0 (w64 (i4 + 1))) = some _) => value_Put_fe h) (fun _ => rfl) (fun r7 => ?_)
    | with_reducible refine call_to (fun _ (h : value_Put v3 ((ix l_0 i4).S) (ix l_0 (w64 (i4 + 1))) = some _) => (by refine FE_cast ?_ (value_Put_fe h); simp -implicitDefEqProofs only [go_sem, start, startE, resVs, resV, resC, allV, retK, Nat.reduceBEq, Nat.reduceAdd, Nat.reduceMul, Nat.reduceLeDiff, Nat.reduceEqDiff, Nat.reduceBNe, Nat.ble_eq, UInt8.reduceToNat])) (fun r7 => ?_)
    | with_reducible refine call_to_q (fun _ (h : value_Put v3 ((ix l_0 i4).S) (ix l_0 (w64 (i4 + 1))) = some _) => (by refine FE_cast ?_ (value_Put_fe h); simp -implicitDefEqProofs only [go_sem, start, startE, resVs, resV, resC, allV, retK, Nat.reduceBEq, Nat.reduceAdd, Nat.reduceMul, Nat.reduceLeDiff, Nat.reduceEqDiff, Nat.reduceBNe, Nat.ble_eq, UInt8.reduceToNat])) (fun _ => rfl) (fun r7 => ?_)
    | ((with_reducible refine iter_to (fun ((v3, i4) : api_Value × Int) => ⟨[(0, .sl false 4 l_0.length (flat l_0)), (2, .loc [.int .i64 0, .int .i64 0, .str (Str.mk []).b, .sl true 4 ([] : List api_Value).length (flat ([] : List api_Value))]), (3, .loc [.int .i64 v3.Kind, .int .i64 v3.N, .str v3.S.b, .sl false 4 v3.L.length (flat v3.L)]), (4, .int .i64 i4)], [], s⟩) ?_ ?_); (first | exact rfl | simp -implicitDefEqProofs only [go_sem, start, startE, resVs, resV, resC, allV, retK, Nat.reduceBEq, Nat.reduceAdd, Nat.reduceMul, Nat.reduceLeDiff, Nat.reduceEqDiff, Nat.reduceBNe, Nat.ble_eq, UInt8.reduceToNat]); rintro J ⟨v3, i4⟩)
    | ((with_reducible refine join_to (fun (v2 : api_Value) => ⟨[(2, .loc [.int .i64 0, .int .i64 0, .str (Str.mk []).b, .sl true 4 ([] : List api_Value).length (flat ([] : List api_Value))]), (3, .loc [.int .i64 v2.Kind, .int .i64 v2.N, .str v2.S.b, .sl false 4 v2.L.length (flat v2.L)])], [], s⟩) (fun J => ?_) ?_); rotate_left; rintro v2)
    | simp -implicitDefEqProofs only [go_sem, start, startE, resVs, resV, resC, allV, retK, Nat.reduceBEq, Nat.reduceAdd, Nat.reduceMul, Nat.reduceLeDiff, Nat.reduceEqDiff, Nat.reduceBNe, Nat.ble_eq, UInt8.reduceToNat])
theorem value_DictOf_fe {l_0} {s : Store} {r : api_Value}  (h : value_DictOf l_0 = some r) : FE Go.Proofs.Tryz.prog 29 [.sl false 4 l_0.length (flat l_0)] s [.agg [.int .i64 r.Kind, .int .i64 r.N, .str r.S.b, .sl false 4 r.L.length (flat r.L)]] s := value_DictOf_fn   ⟨r, h, rfl, rfl⟩
/-- catchword/value.IntOf -/
def value_IntOf (n_0 : Int) : Option (api_Value) :=
  some (api_Value.mk 2 n_0 (Str.mk []) ([] : List api_Value))
def ir_value_IntOf : IC :=
 (.seq (.reg none [i1 2 (.allocL [.int .i64 0, .int .i64 0, .str [], .sl true 4 0 []])] [0, 2])
 (.seq (.reg none [mv 3 0,
 i1 4 (.build [.int .i64 0, .int .i64 0, .str [], .sl true 4 0 []] [(0, 1, (.c (.int .i64 2))), (1, 1, (.t 3))]),
 i0 (.store 4 (.t 2) (.t 4))] [2])
 .ret))
def res_value_IntOf : List IRes := [⟨2, false, some (4, true)⟩]
theorem is_value_IntOf : fnIs Go.Proofs.Tryz.prog 66 5 res_value_IntOf ir_value_IntOf = true := by kernel_rfl
theorem value_IntOf_fn {n_0} {s : Store} {Q : List AV → Store → Prop}  : ok (value_IntOf n_0) (fun r => Q [.agg [.int .i64 r.Kind, .int .i64 r.N, .str r.S.b, .sl false 4 r.L.length (flat r.L)]] s) → FN Go.Proofs.Tryz.prog 66 [.int .i64 n_0] s Q := by
  intro h
  refine FN.of (draw_ok mix) is_value_IntOf rfl (Nat.le_of_ble_eq_true rfl) ?_
  revert h
  rw [ir_value_IntOf, res_value_IntOf, value_IntOf]
  repeat' (first
    | with_reducible exact tt_to
    | with_reducible refine and_to ?_ ?_
    | with_reducible refine im_to ?_
    | simp -implicitDefEqProofs only [go_sem, start, startE, resVs, resV, resC, allV, retK, Nat.reduceBEq, Nat.reduceAdd, Nat.reduceMul, Nat.reduceLeDiff, Nat.reduceEqDiff, Nat.reduceBNe, Nat.ble_eq, UInt8.reduceToNat])
theorem value_IntOf_fe {n_0} {s : Store} {r : api_Value}  (h : value_IntOf n_0 = some r) : FE Go.Proofs.Tryz.prog 66 [.int .i64 n_0] s [.agg [.int .i64 r.Kind, .int .i64 r.N, .str r.S.b, .sl false 4 r.L.length (flat r.L)]] s := value_IntOf_fn   ⟨r, h, rfl, rfl⟩
/-- catchword/catchwordlaw20.small -/
def law20_small  : Option (api_Doc) :=
  bnd (value_NameOf (Str.mk [84, 121, 112, 101])) fun r1 =>
  bnd (value_NameOf (Str.mk [67, 97, 116, 97, 108, 111, 103])) fun r2 =>
  bnd (value_NameOf (Str.mk [80, 97, 103, 101, 115])) fun r3 =>
  bnd (value_RefTo 2) fun r4 =>
  bnd (value_DictOf [r1, r2, r3, r4]) fun r5 =>
  bnd (value_NameOf (Str.mk [84, 121, 112, 101])) fun r6 =>
  bnd (value_NameOf (Str.mk [80, 97, 103, 101, 115])) fun r7 =>
  bnd (value_NameOf (Str.mk [75, 105, 100, 115])) fun r8 =>
  bnd (value_RefTo 3) fun r9 =>
  bnd (value_NameOf (Str.mk [67, 111, 117, 110, 116])) fun r10 =>
  bnd (value_IntOf 1) fun r11 =>
  bnd (value_NameOf (Str.mk [82, 111, 116, 97, 116, 101])) fun r12 =>
  bnd (value_IntOf 90) fun r13 =>
  bnd (value_DictOf [r6, r7, r8, (api_Value.mk 6 0 (Str.mk []) [r9]), r10, r11, r12, r13]) fun r14 =>
  bnd (value_NameOf (Str.mk [84, 121, 112, 101])) fun r15 =>
  bnd (value_NameOf (Str.mk [80, 97, 103, 101])) fun r16 =>
  bnd (value_NameOf (Str.mk [80, 97, 114, 101, 110, 116])) fun r17 =>
  bnd (value_RefTo 2) fun r18 =>
  bnd (value_DictOf [r15, r16, r17, r18]) fun r19 =>
  some (api_Doc.mk [(api_Object.mk r5 false (Str.mk [])), (api_Object.mk r14 false (Str.mk [])), (api_Object.mk r19 false (Str.mk []))] 1)
theorem fnok_27 : (fnOK Go.Proofs.Tryz.prog 27 = true) = True := eq_true (by kernel_rfl)
theorem fnok_28 : (fnOK Go.Proofs.Tryz.prog 28 = true) = True := eq_true (by kernel_rfl)
def ir_law20_small : IC :=
 (.seq (.reg none [i1 0 (.allocL [.sl true 6 0 [], .int .i64 0])] [0])
 (.seq (.reg none [i1 1 (.mov false (.c (.fn 27 [] []))),
 i1 2 (.mov false (.c (.fn 28 [] [])))] [0, 1, 2])
 (.seq (.reg none [mv 6 1,
 i1 7 (.callv (.t 6) [(.c (.str [84, 121, 112, 101]))]),
 mv 8 1,
 i1 9 (.callv (.t 8) [(.c (.str [67, 97, 116, 97, 108, 111, 103]))]),
 mv 10 1,
 i1 11 (.callv (.t 10) [(.c (.str [80, 97, 103, 101, 115]))]),
 mv 12 2,
 i1 13 (.callv (.t 12) [(.c (.int .i64 2))]),
 i1 14 (.buildSl 4 4 [.int .i64 0, .int .i64 0, .str [], .sl true 4 0 [], .int .i64 0, .int .i64 0, .str [], .sl true 4 0 [], .int .i64 0, .int .i64 0, .str [], .sl true 4 0 [], .int .i64 0, .int .i64 0, .str [], .sl true 4 0 []] [(0, 4, (.t 7)), (4, 4, (.t 9)), (8, 4, (.t 11)), (12, 4, (.t 13))]),
 i1 15 (.call 29 [(.t 14)]),
 i1 3 (.allocL [.int .i64 0, .int .i64 0, .str [], .sl true 4 0 []]),
 i0 (.store 4 (.t 3) (.t 15))] [0, 1, 2, 3])
 (.seq (.reg none [mv 16 1,
 i1 17 (.callv (.t 16) [(.c (.str [84, 121, 112, 101]))]),
 mv 18 1,
 i1 19 (.callv (.t 18) [(.c (.str [80, 97, 103, 101, 115]))]),
 mv 20 1,
 i1 21 (.callv (.t 20) [(.c (.str [75, 105, 100, 115]))]),
 mv 22 2,
 i1 23 (.callv (.t 22) [(.c (.int .i64 3))]),
 i1 24 (.buildSl 4 1 [.int .i64 0, .int .i64 0, .str [], .sl true 4 0 []] [(0, 4, (.t 23))]),
 i1 25 (.build [.int .i64 0, .int .i64 0, .str [], .sl true 4 0 []] [(0, 1, (.c (.int .i64 6))), (3, 1, (.t 24))]),
 mv 26 1,
 i1 27 (.callv (.t 26) [(.c (.str [67, 111, 117, 110, 116]))]),
 i1 28 (.call 66 [(.c (.int .i64 1))]),
 mv 29 1,
 i1 30 (.callv (.t 29) [(.c (.str [82, 111, 116, 97, 116, 101]))]),
 i1 31 (.call 66 [(.c (.int .i64 90))]),
 i1 32 (.buildSl 4 8 [.int .i64 0, .int .i64 0, .str [], .sl true 4 0 [], .int .i64 0, .int .i64 0, .str [], .sl true 4 0 [], .int .i64 0, .int .i64 0, .str [], .sl true 4 0 [], .int .i64 0, .int .i64 0, .str [], .sl true 4 0 [], .int .i64 0, .int .i64 0, .str [], .sl true 4 0 [], .int .i64 0, .int .i64 0, .str [], .sl true 4 0 [], .int .i64 0, .int .i64 0, .str [], .sl true 4 0 [], .int .i64 0, .int .i64 0, .str [], .sl true 4 0 []] [(0, 4, (.t 17)), (4, 4, (.t 19)), (8, 4, (.t 21)), (12, 4, (.t 25)), (16, 4, (.t 27)), (20, 4, (.t 28)), (24, 4, (.t 30)), (28, 4, (.t 31))]),
 i1 33 (.call 29 [(.t 32)]),
 i1 4 (.allocL [.int .i64 0, .int .i64 0, .str [], .sl true 4 0 []]),
 i0 (.store 4 (.t 4) (.t 33))] [0, 1, 2, 3, 4])
 (.seq (.reg none [mv 34 1,
 i1 35 (.callv (.t 34) [(.c (.str [84, 121, 112, 101]))]),
 mv 36 1,
 i1 37 (.callv (.t 36) [(.c (.str [80, 97, 103, 101]))]),
 mv 38 1,
 i1 39 (.callv (.t 38) [(.c (.str [80, 97, 114, 101, 110, 116]))]),
 mv 40 2,
 i1 41 (.callv (.t 40) [(.c (.int .i64 2))]),
 i1 42 (.buildSl 4 4 [.int .i64 0, .int .i64 0, .str [], .sl true 4 0 [], .int .i64 0, .int .i64 0, .str [], .sl true 4 0 [], .int .i64 0, .int .i64 0, .str [], .sl true 4 0 [], .int .i64 0, .int .i64 0, .str [], .sl true 4 0 []] [(0, 4, (.t 35)), (4, 4, (.t 37)), (8, 4, (.t 39)), (12, 4, (.t 41))]),
 i1 43 (.call 29 [(.t 42)]),
 i1 5 (.allocL [.int .i64 0, .int .i64 0, .str [], .sl true 4 0 []]),
 i0 (.store 4 (.t 5) (.t 43))] [0, 3, 4, 5])
 (.seq (.reg none [i1 44 (.load 4 true (.t 3)),
 i1 45 (.build [.int .i64 0, .int .i64 0, .str [], .sl true 4 0 [], .bool false, .str []] [(0, 4, (.t 44))]),
 i1 46 (.load 4 true (.t 4)),
 i1 47 (.build [.int .i64 0, .int .i64 0, .str [], .sl true 4 0 [], .bool false, .str []] [(0, 4, (.t 46))]),
 i1 48 (.load 4 true (.t 5)),
 i1 49 (.build [.int .i64 0, .int .i64 0, .str [], .sl true 4 0 [], .bool false, .str []] [(0, 4, (.t 48))]),
 i1 50 (.buildSl 6 3 [.int .i64 0, .int .i64 0, .str [], .sl true 4 0 [], .bool false, .str [], .int .i64 0, .int .i64 0, .str [], .sl true 4 0 [], .bool false, .str [], .int .i64 0, .int .i64 0, .str [], .sl true 4 0 [], .bool false, .str []] [(0, 6, (.t 45)), (6, 6, (.t 47)), (12, 6, (.t 49))]),
 i1 51 (.build [.sl true 6 0 [], .int .i64 0] [(0, 1, (.t 50)), (1, 1, (.c (.int .i64 1)))]),
 i0 (.store 2 (.t 0) (.t 51))] [0])
 .ret))))))
def res_law20_small : List IRes := [⟨0, false, some (2, true)⟩]
theorem is_law20_small : fnIs Go.Proofs.Tryz.prog 40 52 res_law20_small ir_law20_small = true := by kernel_rfl
theorem law20_small_fn  {s : Store} {Q : List AV → Store → Prop}  : ok (law20_small ) (fun r => Q [.agg [.sl false 6 r.Objects.length (flat r.Objects), .int .i64 r.Root]] s) → FN Go.Proofs.Tryz.prog 40 [] s Q := by
  intro h
  refine FN.of (draw_ok mix) is_law20_small rfl (Nat.le_of_ble_eq_true rfl) ?_
  revert h
  rw [ir_law20_small, res_law20_small, law20_small]
  repeat' (first
    | with_reducible exact tt_to
    | with_reducible refine and_to ?_ ?_
    | with_reducible refine im_to ?_
    | ((fail_if_success (have _x := r1)); with_reducible refine call_to (fun _ (h : value_NameOf (Str.mk [84, 121, 112, 101]) = some _) => value_NameOf_fe h) (fun r1 => ?_))
    | ((fail_if_success (have _x := r1)); with_reducible refine call_to_q (fun _ (h : value_NameOf (Str.mk [84, 121, 112, 101]) = some _) => value_NameOf_fe h) (fun _ => rfl) (fun r1 => ?_))
    | ((fail_if_success (have _x := r1)); with_reducible refine call_to (fun _ (h : value_NameOf (Str.mk [84, 121, 112, 101]) = some _) => (by refine FE_cast ?_ (value_NameOf_fe h); simp -implicitDefEqProofs only [go_sem, start, startE, resVs, resV, resC, allV, retK, Nat.reduceBEq, Nat.reduceAdd, Nat.reduceMul, Nat.reduceLeDiff, Nat.reduceEqDiff, Nat.reduceBNe, Nat.ble_eq, UInt8.reduceToNat, fnok_27, fnok_28])) (fun r1 => ?_))
    | ((fail_if_success (have _x := r1)); with_reducible refine call_to_q (fun _ (h : value_NameOf (Str.mk [84, 121, 112, 101]) = some _) => (by refine FE_cast ?_ (value_NameOf_fe h); simp -implicitDefEqProofs only [go_sem, start, startE, resVs, resV, resC, allV, retK, Nat.reduceBEq, Nat.reduceAdd, Nat.reduceMul, Nat.reduceLeDiff, Nat.reduceEqDiff, Nat.reduceBNe, Nat.ble_eq, UInt8.reduceToNat, fnok_27, fnok_28])) (fun _ => rfl) (fun r1 => ?_))
    | with_reducible refine call_to (fun _ (h : value_NameOf (Str.mk [67, 97, 116, 97, 108, 111, 103]) = some _) => value_NameOf_fe h) (fun r2 => ?_)
    | with_reducible refine call_to_q (fun _ (h : value_NameOf (Str.mk [67, 97, 116, 97, 108, 111, 103]) = some _) => value_NameOf_fe h) (fun _ => rfl) (fun r2 => ?_)
    | with_reducible refine call_to (fun _ (h : value_NameOf (Str.mk [67, 97, 116, 97, 108, 111, 103]) = some _) => (by refine FE_cast ?_ (value_NameOf_fe h); simp -implicitDefEqProofs only [go_sem, start, startE, resVs, resV, resC, allV, retK, Nat.reduceBEq, Nat.reduceAdd, Nat.reduceMul, Nat.reduceLeDiff, Nat.reduceEqDiff, Nat.reduceBNe, Nat.ble_eq, UInt8.reduceToNat, fnok_27, fnok_28])) (fun r2 => ?_)
    | with_reducible refine call_to_q (fun _ (h : value_NameOf (Str.mk [67, 97, 116, 97, 108, 111, 103]) = some _) => (by refine FE_cast ?_ (value_NameOf_fe h); simp -implicitDefEqProofs only [go_sem, start, startE, resVs, resV, resC, allV, retK, Nat.reduceBEq, Nat.reduceAdd, Nat.reduceMul, Nat.reduceLeDiff, Nat.reduceEqDiff, Nat.reduceBNe, Nat.ble_eq, UInt8.reduceToNat, fnok_27, fnok_28])) (fun _ => rfl) (fun r2 => ?_)
    | ((fail_if_success (have _x := r3)); with_reducible refine call_to (fun _ (h : value_NameOf (Str.mk [80, 97, 103, 101, 115]) = some _) => value_NameOf_fe h) (fun r3 => ?_))
    | ((fail_if_success (have _x := r3)); with_reducible refine call_to_q (fun _ (h : value_NameOf (Str.mk [80, 97, 103, 101, 115]) = some _) => value_NameOf_fe h) (fun _ => rfl) (fun r3 => ?_))
    | ((fail_if_success (have _x := r3)); with_reducible refine call_to (fun _ (h : value_NameOf (Str.mk [80, 97, 103, 101, 115]) = some _) => (by refine FE_cast ?_ (value_NameOf_fe h); simp -implicitDefEqProofs only [go_sem, start, startE, resVs, resV, resC, allV, retK, Nat.reduceBEq, Nat.reduceAdd, Nat.reduceMul, Nat.reduceLeDiff, Nat.reduceEqDiff, Nat.reduceBNe, Nat.ble_eq, UInt8.reduceToNat, fnok_27, fnok_28])) (fun r3 => ?_))
    | ((fail_if_success (have _x := r3)); with_reducible refine call_to_q (fun _ (h : value_NameOf (Str.mk [80, 97, 103, 101, 115]) = some _) => (by refine FE_cast ?_ (value_NameOf_fe h); simp -implicitDefEqProofs only [go_sem, start, startE, resVs, resV, resC, allV, retK, Nat.reduceBEq, Nat.reduceAdd, Nat.reduceMul, Nat.reduceLeDiff, Nat.reduceEqDiff, Nat.reduceBNe, Nat.ble_eq, UInt8.reduceToNat, fnok_27, fnok_28])) (fun _ => rfl) (fun r3 => ?_))
    | ((fail_if_success (have _x := r4)); with_reducible refine call_to (fun _ (h : value_RefTo 2 = some _) => value_RefTo_fe h) (fun r4 => ?_))
    | ((fail_if_success (have _x := r4)); with_reducible refine call_to_q (fun _ (h : value_RefTo 2 = some _) => value_RefTo_fe h) (fun _ => rfl) (fun r4 => ?_))
    | ((fail_if_success (have _x := r4)); with_reducible refine call_to (fun _ (h : value_RefTo 2 = some _) => (by refine FE_cast ?_ (value_RefTo_fe h); simp -implicitDefEqProofs only [go_sem, start, startE, resVs, resV, resC, allV, retK, Nat.reduceBEq, Nat.reduceAdd, Nat.reduceMul, Nat.reduceLeDiff, Nat.reduceEqDiff, Nat.reduceBNe, Nat.ble_eq, UInt8.reduceToNat, fnok_27, fnok_28])) (fun r4 => ?_))
    | ((fail_if_success (have _x := r4)); with_reducible refine call_to_q (fun _ (h : value_RefTo 2 = some _) => (by refine FE_cast ?_ (value_RefTo_fe h); simp -implicitDefEqProofs only [go_sem, start, startE, resVs, resV, resC, allV, retK, Nat.reduceBEq, Nat.reduceAdd, Nat.reduceMul, Nat.reduceLeDiff, Nat.reduceEqDiff, Nat.reduceBNe, Nat.ble_eq, UInt8.reduceToNat, fnok_27, fnok_28])) (fun _ => rfl) (fun r4 => ?_))
    | with_reducible refine call_to (fun _ (h : value_DictOf [r1, r2, r3, r4] = some _) => value_DictOf_fe h) (fun r5 => ?_)
    | with_reducible refine call_to_q (fun _ (h : value_DictOf [r1, r2, r3, r4] = some _) => value_DictOf_fe h) (fun _ => rfl) (fun r5 => ?_)
    | with_reducible refine call_to (fun _ (h : value_DictOf [r1, r2, r3, r4] = some _) => (by refine FE_cast ?_ (value_DictOf_fe h); simp -implicitDefEqProofs only [go_sem, start, startE, resVs, resV, resC, allV, retK, Nat.reduceBEq, Nat.reduceAdd, Nat.reduceMul, Nat.reduceLeDiff, Nat.reduceEqDiff, Nat.reduceBNe, Nat.ble_eq, UInt8.reduceToNat, fnok_27, fnok_28])) (fun r5 => ?_)
    | with_reducible refine call_to_q (fun _ (h : value_DictOf [r1, r2, r3, r4] = some _) => (by refine FE_cast ?_ (value_DictOf_fe h); simp -implicitDefEqProofs only [go_sem, start, startE, resVs, resV, resC, allV, retK, Nat.reduceBEq, Nat.reduceAdd, Nat.reduceMul, Nat.reduceLeDiff, Nat.reduceEqDiff, Nat.reduceBNe, Nat.ble_eq, UInt8.reduceToNat, fnok_27, fnok_28])) (fun _ => rfl) (fun r5 => ?_)
    | ((fail_if_success (have _x := r6)); with_reducible refine call_to (fun _ (h : value_NameOf (Str.mk [84, 121, 112, 101]) = some _) => value_NameOf_fe h) (fun r6 => ?_))
    | ((fail_if_success (have _x := r6)); with_reducible refine call_to_q (fun _ (h : value_NameOf (Str.mk [84, 121, 112, 101]) = some _) => value_NameOf_fe h) (fun _ => rfl) (fun r6 => ?_))
    | ((fail_if_success (have _x := r6)); with_reducible refine call_to (fun _ (h : value_NameOf (Str.mk [84, 121, 112, 101]) = some _) => (by refine FE_cast ?_ (value_NameOf_fe h); simp -implicitDefEqProofs only [go_sem, start, startE, resVs, resV, resC, allV, retK, Nat.reduceBEq, Nat.reduceAdd, Nat.reduceMul, Nat.reduceLeDiff, Nat.reduceEqDiff, Nat.reduceBNe, Nat.ble_eq, UInt8.reduceToNat, fnok_27, fnok_28])) (fun r6 => ?_))
    | ((fail_if_success (have _x := r6)); with_reducible refine call_to_q (fun _ (h : value_NameOf (Str.mk [84, 121, 112, 101]) = some _) => (by refine FE_cast ?_ (value_NameOf_fe h); simp -implicitDefEqProofs only [go_sem, start, startE, resVs, resV, resC, allV, retK, Nat.reduceBEq, Nat.reduceAdd, Nat.reduceMul, Nat.reduceLeDiff, Nat.reduceEqDiff, Nat.reduceBNe, Nat.ble_eq, UInt8.reduceToNat, fnok_27, fnok_28])) (fun _ => rfl) (fun r6 => ?_))
    | ((fail_if_success (have _x := r7)); with_reducible refine call_to (fun _ (h : value_NameOf (Str.mk [80, 97, 103, 101, 115]) = some _) => value_NameOf_fe h) (fun r7 => ?_))
    | ((fail_if_success (have _x := r7)); with_reducible refine call_to_q (fun _ (h : value_NameOf (Str.mk [80, 97, 103, 101, 115]) = some _) => value_NameOf_fe h) (fun _ => rfl) (fun r7 => ?_))
    | ((fail_if_success (have _x := r7)); with_reducible refine call_to (fun _ (h : value_NameOf (Str.mk [80, 97, 103, 101, 115]) = some _) => (by refine FE_cast ?_ (value_NameOf_fe h); simp -implicitDefEqProofs only [go_sem, start, startE, resVs, resV, resC, allV, retK, Nat.reduceBEq, Nat.reduceAdd, Nat.reduceMul, Nat.reduceLeDiff, Nat.reduceEqDiff, Nat.reduceBNe, Nat.ble_eq, UInt8.reduceToNat, fnok_27, fnok_28])) (fun r7 => ?_))
    | ((fail_if_success (have _x := r7)); with_reducible refine call_to_q (fun _ (h : value_NameOf (Str.mk [80, 97, 103, 101, 115]) = some _) => (by refine FE_cast ?_ (value_NameOf_fe h); simp -implicitDefEqProofs only [go_sem, start, startE, resVs, resV, resC, allV, retK, Nat.reduceBEq, Nat.reduceAdd, Nat.reduceMul, Nat.reduceLeDiff, Nat.reduceEqDiff, Nat.reduceBNe, Nat.ble_eq, UInt8.reduceToNat, fnok_27, fnok_28])) (fun _ => rfl) (fun r7 => ?_))
    | with_reducible refine call_to (fun _ (h : value_NameOf (Str.mk [75, 105, 100, 115]) = some _) => value_NameOf_fe h) (fun r8 => ?_)
    | with_reducible refine call_to_q (fun _ (h : value_NameOf (Str.mk [75, 105, 100, 115]) = some _) => value_NameOf_fe h) (fun _ => rfl) (fun r8 => ?_)
    | with_reducible refine call_to (fun _ (h : value_NameOf (Str.mk [75, 105, 100, 115]) = some _) => (by refine FE_cast ?_ (value_NameOf_fe h); simp -implicitDefEqProofs only [go_sem, start, startE, resVs, resV, resC, allV, retK, Nat.reduceBEq, Nat.reduceAdd, Nat.reduceMul, Nat.reduceLeDiff, Nat.reduceEqDiff, Nat.reduceBNe, Nat.ble_eq, UInt8.reduceToNat, fnok_27, fnok_28])) (fun r8 => ?_)
    | with_reducible refine call_to_q (fun _ (h : value_NameOf (Str.mk [75, 105, 100, 115]) = some _) => (by refine FE_cast ?_ (value_NameOf_fe h); simp -implicitDefEqProofs only [go_sem, start, startE, resVs, resV, resC, allV, retK, Nat.reduceBEq, Nat.reduceAdd, Nat.reduceMul, Nat.reduceLeDiff, Nat.reduceEqDiff, Nat.reduceBNe, Nat.ble_eq, UInt8.reduceToNat, fnok_27, fnok_28])) (fun _ => rfl) (fun r8 => ?_)
    | with_reducible refine call_to (fun _ (h : value_RefTo 3 = some _) => value_RefTo_fe h) (fun r9 => ?_)
    | with_reducible refine call_to_q (fun _ (h : value_RefTo 3 = some _) => value_RefTo_fe h) (fun _ => rfl) (fun r9 => ?_)
    | with_reducible refine call_to (fun _ (h : value_RefTo 3 = some _) => (by refine FE_cast ?_ (value_RefTo_fe h); simp -implicitDefEqProofs only [go_sem, start, startE, resVs, resV, resC, allV, retK, Nat.reduceBEq, Nat.reduceAdd, Nat.reduceMul, Nat.reduceLeDiff, Nat.reduceEqDiff, Nat.reduceBNe, Nat.ble_eq, UInt8.reduceToNat, fnok_27, fnok_28])) (fun r9 => ?_)
    | with_reducible refine call_to_q (fun _ (h : value_RefTo 3 = some _) => (by refine FE_cast ?_ (value_RefTo_fe h); simp -implicitDefEqProofs only [go_sem, start, startE, resVs, resV, resC, allV, retK, Nat.reduceBEq, Nat.reduceAdd, Nat.reduceMul, Nat.reduceLeDiff, Nat.reduceEqDiff, Nat.reduceBNe, Nat.ble_eq, UInt8.reduceToNat, fnok_27, fnok_28])) (fun _ => rfl) (fun r9 => ?_)
    | with_reducible refine call_to (fun _ (h : value_NameOf (Str.mk [67, 111, 117, 110, 116]) = some _) => value_NameOf_fe h) (fun r10 => ?_)
    | with_reducible refine call_to_q (fun _ (h : value_NameOf (Str.mk [67, 111, 117, 110, 116]) = some _) => value_NameOf_fe h) (fun _ => rfl) (fun r10 => ?_)
    | with_reducible refine call_to (fun _ (h : value_NameOf (Str.mk [67, 111, 117, 110, 116]) = some _) => (by refine FE_cast ?_ (value_NameOf_fe h); simp -implicitDefEqProofs only [go_sem, start, startE, resVs, resV, resC, allV, retK, Nat.reduceBEq, Nat.reduceAdd, Nat.reduceMul, Nat.reduceLeDiff, Nat.reduceEqDiff, Nat.reduceBNe, Nat.ble_eq, UInt8.reduceToNat, fnok_27, fnok_28])) (fun r10 => ?_)
    | with_reducible refine call_to_q (fun _ (h : value_NameOf (Str.mk [67, 111, 117, 110, 116]) = some _) => (by refine FE_cast ?_ (value_NameOf_fe h); simp -implicitDefEqProofs only [go_sem, start, startE, resVs, resV, resC, allV, retK, Nat.reduceBEq, Nat.reduceAdd, Nat.reduceMul, Nat.reduceLeDiff, Nat.reduceEqDiff, Nat.reduceBNe, Nat.ble_eq, UInt8.reduceToNat, fnok_27, fnok_28])) (fun _ => rfl) (fun r10 => ?_)
    | with_reducible refine call_to (fun _ (h : value_IntOf 1 = some _) => value_IntOf_fe h) (fun r11 => ?_)
    | with_reducible refine call_to_q (fun _ (h : value_IntOf 1 = some _) => value_IntOf_fe h) (fun _ => rfl) (fun r11 => ?_)
    | with_reducible refine call_to (fun _ (h : value_IntOf 1 = some _) => (by refine FE_cast ?_ (value_IntOf_fe h); simp -implicitDefEqProofs only [go_sem, start, startE, resVs, resV, resC, allV, retK, Nat.reduceBEq, Nat.reduceAdd, Nat.reduceMul, Nat.reduceLeDiff, Nat.reduceEqDiff, Nat.reduceBNe, Nat.ble_eq, UInt8.reduceToNat, fnok_27, fnok_28])) (fun r11 => ?_)
    | with_reducible refine call_to_q (fun _ (h : value_IntOf 1 = some _) => (by refine FE_cast ?_ (value_IntOf_fe h); simp -implicitDefEqProofs only [go_sem, start, startE, resVs, resV, resC, allV, retK, Nat.reduceBEq, Nat.reduceAdd, Nat.reduceMul, Nat.reduceLeDiff, Nat.reduceEqDiff, Nat.reduceBNe, Nat.ble_eq, UInt8.reduceToNat, fnok_27, fnok_28])) (fun _ => rfl) (fun r11 => ?_)
    | with_reducible refine call_to (fun _ (h : value_NameOf (Str.mk [82, 111, 116, 97, 116, 101]) = some _) => value_NameOf_fe h) (fun r12 => ?_)
    | with_reducible refine call_to_q (fun _ (h : value_NameOf (Str.mk [82, 111, 116, 97, 116, 101]) = some _) => value_NameOf_fe h) (fun _ => rfl) (fun r12 => ?_)
    | with_reducible refine call_to (fun _ (h : value_NameOf (Str.mk [82, 111, 116, 97, 116, 101]) = some _) => (by refine FE_cast ?_ (value_NameOf_fe h); simp -implicitDefEqProofs only [go_sem, start, startE, resVs, resV, resC, allV, retK, Nat.reduceBEq, Nat.reduceAdd, Nat.reduceMul, Nat.reduceLeDiff, Nat.reduceEqDiff, Nat.reduceBNe, Nat.ble_eq, UInt8.reduceToNat, fnok_27, fnok_28])) (fun r12 => ?_)
    | with_reducible refine call_to_q (fun _ (h : value_NameOf (Str.mk [82, 111, 116, 97, 116, 101]) = some _) => (by refine FE_cast ?_ (value_NameOf_fe h); simp -implicitDefEqProofs only [go_sem, start, startE, resVs, resV, resC, allV, retK, Nat.reduceBEq, Nat.reduceAdd, Nat.reduceMul, Nat.reduceLeDiff, Nat.reduceEqDiff, Nat.reduceBNe, Nat.ble_eq, UInt8.reduceToNat, fnok_27, fnok_28])) (fun _ => rfl) (fun r12 => ?_)
    | with_reducible refine call_to (fun _ (h : value_IntOf 90 = some _) => value_IntOf_fe h) (fun r13 => ?_)
    | with_reducible refine call_to_q (fun _ (h : value_IntOf 90 = some _) => value_IntOf_fe h) (fun _ => rfl) (fun r13 => ?_)
    | with_reducible refine call_to (fun _ (h : value_IntOf 90 = some _) => (by refine FE_cast ?_ (value_IntOf_fe h); simp -implicitDefEqProofs only [go_sem, start, startE, resVs, resV, resC, allV, retK, Nat.reduceBEq, Nat.reduceAdd, Nat.reduceMul, Nat.reduceLeDiff, Nat.reduceEqDiff, Nat.reduceBNe, Nat.ble_eq, UInt8.reduceToNat, fnok_27, fnok_28])) (fun r13 => ?_)
    | with_reducible refine call_to_q (fun _ (h : value_IntOf 90 = some _) => (by refine FE_cast ?_ (value_IntOf_fe h); simp -implicitDefEqProofs only [go_sem, start, startE, resVs, resV, resC, allV, retK, Nat.reduceBEq, Nat.reduceAdd, Nat.reduceMul, Nat.reduceLeDiff, Nat.reduceEqDiff, Nat.reduceBNe, Nat.ble_eq, UInt8.reduceToNat, fnok_27, fnok_28])) (fun _ => rfl) (fun r13 => ?_)
    | with_reducible refine call_to (fun _ (h : value_DictOf [r6, r7, r8, (api_Value.mk 6 0 (Str.mk []) [r9]), r10, r11, r12, r13] = some _) => value_DictOf_fe h) (fun r14 => ?_)
    | with_reducible refine call_to_q (fun _ (h : value_DictOf [r6, r7, r8, (api_Value.mk 6 0 (Str.mk []) [r9]), r10, r11, r12, r13] = some _) => value_DictOf_fe h) (fun _ => rfl) (fun r14 => ?_)
    | with_reducible refine call_to (fun _ (h : value_DictOf [r6, r7, r8, (api_Value.mk 6 0 (Str.mk []) [r9]), r10, r11, r12, r13] = some _) => (by refine FE_cast ?_ (value_DictOf_fe h); simp -implicitDefEqProofs only [go_sem, start, startE, resVs, resV, resC, allV, retK, Nat.reduceBEq, Nat.reduceAdd, Nat.reduceMul, Nat.reduceLeDiff, Nat.reduceEqDiff, Nat.reduceBNe, Nat.ble_eq, UInt8.reduceToNat, fnok_27, fnok_28])) (fun r14 => ?_)
    | with_reducible refine call_to_q (fun _ (h : value_DictOf [r6, r7, r8, (api_Value.mk 6 0 (Str.mk []) [r9]), r10, r11, r12, r13] = some _) => (by refine FE_cast ?_ (value_DictOf_fe h); simp -implicitDefEqProofs only [go_sem, start, startE, resVs, resV, resC, allV, retK, Nat.reduceBEq, Nat.reduceAdd, Nat.reduceMul, Nat.reduceLeDiff, Nat.reduceEqDiff, Nat.reduceBNe, Nat.ble_eq, UInt8.reduceToNat, fnok_27, fnok_28])) (fun _ => rfl) (fun r14 => ?_)
    | ((fail_if_success (have _x := r15)); with_reducible refine call_to (fun _ (h : value_NameOf (Str.mk [84, 121, 112, 101]) = some _) => value_NameOf_fe h) (fun r15 => ?_))
    | ((fail_if_success (have _x := r15)); with_reducible refine call_to_q (fun _ (h : value_NameOf (Str.mk [84, 121, 112, 101]) = some _) => value_NameOf_fe h) (fun _ => rfl) (fun r15 => ?_))
    | ((fail_if_success (have _x := r15)); with_reducible refine call_to (fun _ (h : value_NameOf (Str.mk [84, 121, 112, 101]) = some _) => (by refine FE_cast ?_ (value_NameOf_fe h); simp -implicitDefEqProofs only [go_sem, start, startE, resVs, resV, resC, allV, retK, Nat.reduceBEq, Nat.reduceAdd, Nat.reduceMul, Nat.reduceLeDiff, Nat.reduceEqDiff, Nat.reduceBNe, Nat.ble_eq, UInt8.reduceToNat, fnok_27, fnok_28])) (fun r15 => ?_))
    | ((fail_if_success (have _x := r15)); with_reducible refine call_to_q (fun _ (h : value_NameOf (Str.mk [84, 121, 112, 101]) = some _) => (by refine FE_cast ?_ (value_NameOf_fe h); simp -implicitDefEqProofs only [go_sem, start, startE, resVs, resV, resC, allV, retK, Nat.reduceBEq, Nat.reduceAdd, Nat.reduceMul, Nat.reduceLeDiff, Nat.reduceEqDiff, Nat.reduceBNe, Nat.ble_eq, UInt8.reduceToNat, fnok_27, fnok_28])) (fun _ => rfl) (fun r15 => ?_))
    | with_reducible refine call_to (fun _ (h : value_NameOf (Str.mk [80, 97, 103, 101]) = some _) => value_NameOf_fe h) (fun r16 => ?_)
    | with_reducible refine call_to_q (fun _ (h : value_NameOf (Str.mk [80, 97, 103, 101]) = some _) => value_NameOf_fe h) (fun _ => rfl) (fun r16 => ?_)
    | with_reducible refine call_to (fun _ (h : value_NameOf (Str.mk [80, 97, 103, 101]) = some _) => (by refine FE_cast ?_ (value_NameOf_fe h); simp -implicitDefEqProofs only [go_sem, start, startE, resVs, resV, resC, allV, retK, Nat.reduceBEq, Nat.reduceAdd, Nat.reduceMul, Nat.reduceLeDiff, Nat.reduceEqDiff, Nat.reduceBNe, Nat.ble_eq, UInt8.reduceToNat, fnok_27, fnok_28])) (fun r16 => ?_)
    | with_reducible refine call_to_q (fun _ (h : value_NameOf (Str.mk [80, 97, 103, 101]) = some _) => (by refine FE_cast ?_ (value_NameOf_fe h); simp -implicitDefEqProofs only [go_sem, start, startE, resVs, resV, resC, allV, retK, Nat.reduceBEq, Nat.reduceAdd, Nat.reduceMul, Nat.reduceLeDiff, Nat.reduceEqDiff, Nat.reduceBNe, Nat.ble_eq, UInt8.reduceToNat, fnok_27, fnok_28])) (fun _ => rfl) (fun r16 => ?_)
    | with_reducible refine call_to (fun _ (h : value_NameOf (Str.mk [80, 97, 114, 101, 110, 116]) = some _) => value_NameOf_fe h) (fun r17 => ?_)
    | with_reducible refine call_to_q (fun _ (h : value_NameOf (Str.mk [80, 97, 114, 101, 110, 116]) = some _) => value_NameOf_fe h) (fun _ => rfl) (fun r17 => ?_)
    | with_reducible refine call_to (fun _ (h : value_NameOf (Str.mk [80, 97, 114, 101, 110, 116]) = some _) => (by refine FE_cast ?_ (value_NameOf_fe h); simp -implicitDefEqProofs only [go_sem, start, startE, resVs, resV, resC, allV, retK, Nat.reduceBEq, Nat.reduceAdd, Nat.reduceMul, Nat.reduceLeDiff, Nat.reduceEqDiff, Nat.reduceBNe, Nat.ble_eq, UInt8.reduceToNat, fnok_27, fnok_28])) (fun r17 => ?_)
    | with_reducible refine call_to_q (fun _ (h : value_NameOf (Str.mk [80, 97, 114, 101, 110, 116]) = some _) => (by refine FE_cast ?_ (value_NameOf_fe h); simp -implicitDefEqProofs only [go_sem, start, startE, resVs, resV, resC, allV, retK, Nat.reduceBEq, Nat.reduceAdd, Nat.reduceMul, Nat.reduceLeDiff, Nat.reduceEqDiff, Nat.reduceBNe, Nat.ble_eq, UInt8.reduceToNat, fnok_27, fnok_28])) (fun _ => rfl) (fun r17 => ?_)
    | ((fail_if_success (have _x := r18)); with_reducible refine call_to (fun _ (h : value_RefTo 2 = some _) => value_RefTo_fe h) (fun r18 => ?_))
    | ((fail_if_success (have _x := r18)); with_reducible refine call_to_q (fun _ (h : value_RefTo 2 = some _) => value_RefTo_fe h) (fun _ => rfl) (fun r18 => ?_))
    | ((fail_if_success (have _x := r18)); with_reducible refine call_to (fun _ (h : value_RefTo 2 = some _) => (by refine FE_cast ?_ (value_RefTo_fe h); simp -implicitDefEqProofs only [go_sem, start, startE, resVs, resV, resC, allV, retK, Nat.reduceBEq, Nat.reduceAdd, Nat.reduceMul, Nat.reduceLeDiff, Nat.reduceEqDiff, Nat.reduceBNe, Nat.ble_eq, UInt8.reduceToNat, fnok_27, fnok_28])) (fun r18 => ?_))
    | ((fail_if_success (have _x := r18)); with_reducible refine call_to_q (fun _ (h : value_RefTo 2 = some _) => (by refine FE_cast ?_ (value_RefTo_fe h); simp -implicitDefEqProofs only [go_sem, start, startE, resVs, resV, resC, allV, retK, Nat.reduceBEq, Nat.reduceAdd, Nat.reduceMul, Nat.reduceLeDiff, Nat.reduceEqDiff, Nat.reduceBNe, Nat.ble_eq, UInt8.reduceToNat, fnok_27, fnok_28])) (fun _ => rfl) (fun r18 => ?_))
    | with_reducible refine call_to (fun _ (h : value_DictOf [r15, r16, r17, r18] = some _) => value_DictOf_fe h) (fun r19 => ?_)
    | with_reducible refine call_to_q (fun _ (h : value_DictOf [r15, r16, r17, r18] = some _) => value_DictOf_fe h) (fun _ => rfl) (fun r19 => ?_)
    | with_reducible refine call_to (fun _ (h : value_DictOf [r15, r16, r17, r18] = some _) => (by refine FE_cast ?_ (value_DictOf_fe h); simp -implicitDefEqProofs only [go_sem, start, startE, resVs, resV, resC, allV, retK, Nat.reduceBEq, Nat.reduceAdd, Nat.reduceMul, Nat.reduceLeDiff, Nat.reduceEqDiff, Nat.reduceBNe, Nat.ble_eq, UInt8.reduceToNat, fnok_27, fnok_28])) (fun r19 => ?_)
    | with_reducible refine call_to_q (fun _ (h : value_DictOf [r15, r16, r17, r18] = some _) => (by refine FE_cast ?_ (value_DictOf_fe h); simp -implicitDefEqProofs only [go_sem, start, startE, resVs, resV, resC, allV, retK, Nat.reduceBEq, Nat.reduceAdd, Nat.reduceMul, Nat.reduceLeDiff, Nat.reduceEqDiff, Nat.reduceBNe, Nat.ble_eq, UInt8.reduceToNat, fnok_27, fnok_28])) (fun _ => rfl) (fun r19 => ?_)
    | simp -implicitDefEqProofs only [go_sem, start, startE, resVs, resV, resC, allV, retK, Nat.reduceBEq, Nat.reduceAdd, Nat.reduceMul, Nat.reduceLeDiff, Nat.reduceEqDiff, Nat.reduceBNe, Nat.ble_eq, UInt8.reduceToNat, fnok_27, fnok_28])
theorem law20_small_fe  {s : Store} {r : api_Doc}  (h : law20_small  = some r) : FE Go.Proofs.Tryz.prog 40 [] s [.agg [.sl false 6 r.Objects.length (flat r.Objects), .int .i64 r.Root]] s := law20_small_fn   ⟨r, h, rfl, rfl⟩
structure file_File where
  root_ : Int
  count_ : Int
  get_ : api_Doc
/-- catchword/file.Of -/
def ir_file_Of : IC :=
 (.seq (.reg none [i1 1 (.boxS 2 (.t 0)),
 i1 2 (.mov false (.c (.nilp)))] [1])
 (.seq (.reg none [i1 3 (.fieldAddr 1 (.t 1)),
 i1 4 (.loadR [.int .i64 0] false (.t 3)),
 i1 5 (.fieldAddr 0 (.t 1)),
 i1 6 (.loadR [.sl false 6 0 []] false (.t 5)),
 i1 7 (.len 0 (.t 6)),
 i1 8 (.makeFn 34 [] [(.t 1)]),
 i1 9 (.build [.int .i64 0, .int .i64 0, .nilf] [(0, 1, (.t 4)), (1, 1, (.t 7)), (2, 1, (.t 8))]),
 i1 10 (.boxS 3 (.t 9)),
 mv 2 10] [2])
 .ret))
def res_file_Of : List IRes := [⟨2, true, none⟩]
theorem is_file_Of : fnIs Go.Proofs.Tryz.prog 10 11 res_file_Of ir_file_Of = true := by kernel_rfl

theorem fnok_34 : (fnOK Go.Proofs.Tryz.prog 34 = true) = True := eq_true (by kernel_rfl)
def file_Of (d : api_Doc) : Option file_File := some ⟨d.Root, d.Objects.length, d⟩
theorem file_Of_fn {d : api_Doc} {s : Store} {Q : List AV → Store → Prop} (h : ok (file_Of d) fun r => ∀ N1, s N1 = none → ∀ N2, (s.set N1 (.cells [.sl false 6 r.get_.Objects.length (flat r.get_.Objects), .int .i64 r.get_.Root])) N2 = none →
    Q [.ref N2 0] ((s.set N1 (.cells [.sl false 6 r.get_.Objects.length (flat r.get_.Objects), .int .i64 r.get_.Root])).set N2 (.cells [.int .i64 r.root_, .int .i64 r.count_, .fn 34 [] [.ref N1 0]]))) :
    FN Go.Proofs.Tryz.prog 10 [.agg [.sl false 6 d.Objects.length (flat d.Objects), .int .i64 d.Root]] s Q := by
  refine FN.of (draw_ok mix) is_file_Of rfl (Nat.le_of_ble_eq_true rfl) ?_
  unfold file_Of at h
  rw [ok_some] at h
  rw [ir_file_Of, res_file_Of]
  simp -implicitDefEqProofs only [go_sem, start, startE, resVs, resV, resC, allV, retK, Nat.reduceBEq, Nat.reduceAdd, Nat.reduceMul, Nat.reduceLeDiff, Nat.reduceEqDiff, Nat.reduceBNe, Nat.ble_eq, UInt8.reduceToNat, fnok_34, set_at]
  exact h

structure tree_Leaf where
  Page : Int
  Path : (List Int)
  Given : api_Value
instance : Enc tree_Leaf := ⟨6, fun x => [.int .i64 x.Page, .sl false 1 x.Path.length (flat x.Path), .int .i64 x.Given.Kind, .int .i64 x.Given.N, .str x.Given.S.b, .sl false 4 x.Given.L.length (flat x.Given.L)], (tree_Leaf.mk 0 [] (api_Value.mk 0 0 (Str.mk []) [])), by decide, fun _ => rfl, fun _ => rfl⟩
@[go_sem] theorem cells_tree_Leaf (x : tree_Leaf) : Enc.cells x = [.int .i64 x.Page, .sl false 1 x.Path.length (flat x.Path), .int .i64 x.Given.Kind, .int .i64 x.Given.N, .str x.Given.S.b, .sl false 4 x.Given.L.length (flat x.Given.L)] := rfl
@[go_sem] theorem w_tree_Leaf : Enc.w tree_Leaf = 6 := rfl
@[go_sem] theorem pad_tree_Leaf (l : List tree_Leaf) (i : Int) : pad [.int .i64 0, .sl false 1 0 [], .int .i64 0, .int .i64 0, .str [], .sl false 4 0 []] (views (AB.sub (flat l) (i.toNat * 6) 6)) = [.int .i64 ((ix l i).Page), .sl false 1 ((ix l i).Path).length (flat ((ix l i).Path)), .int .i64 (((ix l i).Given).Kind), .int .i64 (((ix l i).Given).N), .str (((ix l i).Given).S).b, .sl false 4 (((ix l i).Given).L).length (flat (((ix l i).Given).L))] := by
  rw [← cells_tree_Leaf]; exact flat_pad _ 6 l i (by rw [cells_tree_Leaf]; rfl) rfl
@[go_sem] theorem mk_tree_Leaf (x : tree_Leaf) : tree_Leaf.mk x.Page x.Path x.Given = x := by cases x; rfl
structure tree_node where
  n_ : Int
  v_ : api_Value
  kids_ : (List Int)
  count_ : Int
instance : Enc tree_node := ⟨7, fun x => [.int .i64 x.n_, .int .i64 x.v_.Kind, .int .i64 x.v_.N, .str x.v_.S.b, .sl false 4 x.v_.L.length (flat x.v_.L), .sl false 1 x.kids_.length (flat x.kids_), .int .i64 x.count_], (tree_node.mk 0 (api_Value.mk 0 0 (Str.mk []) []) [] 0), by decide, fun _ => rfl, fun _ => rfl⟩
@[go_sem] theorem cells_tree_node (x : tree_node) : Enc.cells x = [.int .i64 x.n_, .int .i64 x.v_.Kind, .int .i64 x.v_.N, .str x.v_.S.b, .sl false 4 x.v_.L.length (flat x.v_.L), .sl false 1 x.kids_.length (flat x.kids_), .int .i64 x.count_] := rfl
@[go_sem] theorem w_tree_node : Enc.w tree_node = 7 := rfl
@[go_sem] theorem pad_tree_node (l : List tree_node) (i : Int) : pad [.int .i64 0, .int .i64 0, .int .i64 0, .str [], .sl false 4 0 [], .sl false 1 0 [], .int .i64 0] (views (AB.sub (flat l) (i.toNat * 7) 7)) = [.int .i64 ((ix l i).n_), .int .i64 (((ix l i).v_).Kind), .int .i64 (((ix l i).v_).N), .str (((ix l i).v_).S).b, .sl false 4 (((ix l i).v_).L).length (flat (((ix l i).v_).L)), .sl false 1 ((ix l i).kids_).length (flat ((ix l i).kids_)), .int .i64 ((ix l i).count_)] := by
  rw [← cells_tree_node]; exact flat_pad _ 7 l i (by rw [cells_tree_node]; rfl) rfl
@[go_sem] theorem mk_tree_node (x : tree_node) : tree_node.mk x.n_ x.v_ x.kids_ x.count_ = x := by cases x; rfl
/-- (*catchword/file.File).is -/
def file_File_is (f_0 : file_File) : Option (Bool) :=
  some (true || false)
def ir_file_File_is : IC :=
 (.seq (.reg none [i1 2 (.mov false (.c (.bool false)))] [0])
 (.seq (.reg none [mv 3 0,
 i1 4 (.eqP true (.t 3) (.c (.nilp))),
 mv 5 4,
 mvg 6 0 5 true,
 i1g 7 5 true (.nilCheck (.t 6)),
 i1g 8 5 true (.fieldAddr 2 (.t 7)),
 i1g 9 5 true (.loadR [.nilf] false (.t 8)),
 i1g 10 5 true (.eqF true (.t 9)),
 i1 11 (.pick (.t 5) (.t 10) (.c (.bool false))),
 mv 2 11] [2])
 .ret))
def res_file_File_is : List IRes := [⟨2, true, none⟩]
theorem is_file_File_is : fnIs Go.Proofs.Tryz.prog 58 12 res_file_File_is ir_file_File_is = true := by kernel_rfl
theorem file_File_is_fn {f_0} {B0 B0_get_ : Nat} {s : Store} {Q : List AV → Store → Prop} (hB0 : s B0 = some (.cells [.int .i64 f_0.root_, .int .i64 f_0.count_, .fn 34 [] [.ref B0_get_ 0]])) (hB0_get_ : s B0_get_ = some (.cells [.sl false 6 f_0.get_.Objects.length (flat f_0.get_.Objects), .int .i64 f_0.get_.Root])) (nB0B0_get_ : B0 ≠ B0_get_) : ok (file_File_is f_0) (fun r => Q [.bool r] s) → FN Go.Proofs.Tryz.prog 58 [.ref B0 0] s Q := by
  have hS : s = ((s.set B0 (.cells [.int .i64 f_0.root_, .int .i64 f_0.count_, .fn 34 [] [.ref B0_get_ 0]])).set B0_get_ (.cells [.sl false 6 f_0.get_.Objects.length (flat f_0.get_.Objects), .int .i64 f_0.get_.Root])) := by simp only [set_eq' hB0, set_eq' hB0_get_]
  rw [hS]
  intro h
  refine FN.of (draw_ok mix) is_file_File_is rfl (Nat.le_of_ble_eq_true rfl) ?_
  revert h
  rw [ir_file_File_is, res_file_File_is, file_File_is]
  repeat' (first
    | with_reducible exact tt_to
    | with_reducible refine and_to ?_ ?_
    | with_reducible refine im_to ?_
    | simp -implicitDefEqProofs only [go_sem, start, startE, resVs, resV, resC, allV, retK, Nat.reduceBEq, Nat.reduceAdd, Nat.reduceMul, Nat.reduceLeDiff, Nat.reduceEqDiff, Nat.reduceBNe, Nat.ble_eq, UInt8.reduceToNat, set_ne nB0B0_get_, set_ne nB0B0_get_.symm, set_comm nB0B0_get_])
theorem file_File_is_fe {f_0} {B0 B0_get_ : Nat} {s : Store} {r : Bool} (hB0 : s B0 = some (.cells [.int .i64 f_0.root_, .int .i64 f_0.count_, .fn 34 [] [.ref B0_get_ 0]])) (hB0_get_ : s B0_get_ = some (.cells [.sl false 6 f_0.get_.Objects.length (flat f_0.get_.Objects), .int .i64 f_0.get_.Root])) (nB0B0_get_ : B0 ≠ B0_get_) (h : file_File_is f_0 = some r) : FE Go.Proofs.Tryz.prog 58 [.ref B0 0] s [.bool r] s := file_File_is_fn hB0 hB0_get_ nB0B0_get_ ⟨r, h, rfl, rfl⟩
/-- (*catchword/file.File).Root -/
def file_File_Root (f_0 : file_File) : Option (Int) :=
  bnd (file_File_is f_0) fun r1 =>
  if !r1 then
    some 0
  else
    some f_0.root_
def ir_file_File_Root : IC :=
 (.seq (.reg none [i1 2 (.mov false (.c (.int .i64 0)))] [0])
 (.seq (.seq (.reg none [mv 3 0,
 i1 4 (.call 58 [(.t 3)]),
 i1 5 (.un .not (.t 4))] [0, 5])
 (.cond (.t 5) (.seq (.reg none [i1 2 (.mov false (.c (.int .i64 0)))] [2])
 .ret)
 .skip))
 (.seq (.reg none [mv 6 0,
 i1 7 (.nilCheck (.t 6)),
 i1 8 (.fieldAddr 0 (.t 7)),
 i1 9 (.loadR [.int .i64 0] false (.t 8)),
 mv 2 9] [2])
 .ret)))
def res_file_File_Root : List IRes := [⟨2, true, none⟩]
theorem is_file_File_Root : fnIs Go.Proofs.Tryz.prog 68 10 res_file_File_Root ir_file_File_Root = true := by kernel_rfl
theorem file_File_Root_fn {f_0} {B0 B0_get_ : Nat} {s : Store} {Q : List AV → Store → Prop} (hB0 : s B0 = some (.cells [.int .i64 f_0.root_, .int .i64 f_0.count_, .fn 34 [] [.ref B0_get_ 0]])) (hB0_get_ : s B0_get_ = some (.cells [.sl false 6 f_0.get_.Objects.length (flat f_0.get_.Objects), .int .i64 f_0.get_.Root])) (nB0B0_get_ : B0 ≠ B0_get_) : ok (file_File_Root f_0) (fun r => Q [.int .i64 r] s) → FN Go.Proofs.Tryz.prog 68 [.ref B0 0] s Q := by
  have hS : s = ((s.set B0 (.cells [.int .i64 f_0.root_, .int .i64 f_0.count_, .fn 34 [] [.ref B0_get_ 0]])).set B0_get_ (.cells [.sl false 6 f_0.get_.Objects.length (flat f_0.get_.Objects), .int .i64 f_0.get_.Root])) := by simp only [set_eq' hB0, set_eq' hB0_get_]
  rw [hS]
  intro h
  refine FN.of (draw_ok mix) is_file_File_Root rfl (Nat.le_of_ble_eq_true rfl) ?_
  revert h
  rw [ir_file_File_Root, res_file_File_Root, file_File_Root]
  repeat' (first
    | with_reducible exact tt_to
    | with_reducible refine and_to ?_ ?_
    | with_reducible refine im_to ?_
    | with_reducible refine call_to (fun _ (h : file_File_is f_0 = some _) => file_File_is_fe (B0 := B0) (B0_get_ := B0_get_) (by simp -implicitDefEqProofs only [go_sem, start, startE, resVs, resV, resC, allV, retK, Nat.reduceBEq, Nat.reduceAdd, Nat.reduceMul, Nat.reduceLeDiff, Nat.reduceEqDiff, Nat.reduceBNe, Nat.ble_eq, UInt8.reduceToNat, set_ne nB0B0_get_, set_ne nB0B0_get_.symm, set_comm nB0B0_get_]) (by simp -implicitDefEqProofs only [go_sem, start, startE, resVs, resV, resC, allV, retK, Nat.reduceBEq, Nat.reduceAdd, Nat.reduceMul, Nat.reduceLeDiff, Nat.reduceEqDiff, Nat.reduceBNe, Nat.ble_eq, UInt8.reduceToNat, set_ne nB0B0_get_, set_ne nB0B0_get_.symm, set_comm nB0B0_get_]) nB0B0_get_ h) (fun r1 => ?_)
    | with_reducible refine call_to_q (fun _ (h : file_File_is f_0 = some _) => file_File_is_fe (B0 := B0) (B0_get_ := B0_get_) (by simp -implicitDefEqProofs only [go_sem, start, startE, resVs, resV, resC, allV, retK, Nat.reduceBEq, Nat.reduceAdd, Nat.reduceMul, Nat.reduceLeDiff, Nat.reduceEqDiff, Nat.reduceBNe, Nat.ble_eq, UInt8.reduceToNat, set_ne nB0B0_get_, set_ne nB0B0_get_.symm, set_comm nB0B0_get_]) (by simp -implicitDefEqProofs only [go_sem, start, startE, resVs, resV, resC, allV, retK, Nat.reduceBEq, Nat.reduceAdd, Nat.reduceMul, Nat.reduceLeDiff, Nat.reduceEqDiff, Nat.reduceBNe, Nat.ble_eq, UInt8.reduceToNat, set_ne nB0B0_get_, set_ne nB0B0_get_.symm, set_comm nB0B0_get_]) nB0B0_get_ h) (fun _ => rfl) (fun r1 => ?_)
    | simp -implicitDefEqProofs only [go_sem, start, startE, resVs, resV, resC, allV, retK, Nat.reduceBEq, Nat.reduceAdd, Nat.reduceMul, Nat.reduceLeDiff, Nat.reduceEqDiff, Nat.reduceBNe, Nat.ble_eq, UInt8.reduceToNat, set_ne nB0B0_get_, set_ne nB0B0_get_.symm, set_comm nB0B0_get_])
theorem file_File_Root_fe {f_0} {B0 B0_get_ : Nat} {s : Store} {r : Int} (hB0 : s B0 = some (.cells [.int .i64 f_0.root_, .int .i64 f_0.count_, .fn 34 [] [.ref B0_get_ 0]])) (hB0_get_ : s B0_get_ = some (.cells [.sl false 6 f_0.get_.Objects.length (flat f_0.get_.Objects), .int .i64 f_0.get_.Root])) (nB0B0_get_ : B0 ≠ B0_get_) (h : file_File_Root f_0 = some r) : FE Go.Proofs.Tryz.prog 68 [.ref B0 0] s [.int .i64 r] s := file_File_Root_fn hB0 hB0_get_ nB0B0_get_ ⟨r, h, rfl, rfl⟩
/-- catchword/file.Of$1 -/
def file_Of_1 (n_0 : Int) (c_1 : api_Doc) : Option (api_Object × Int × Int) :=
  if (decide (n_0 < 1)) || (decide (n_0 > (c_1.Objects.length : Int))) then
    some ((api_Object.mk (api_Value.mk 0 0 (Str.mk []) ([] : List api_Value)) false (Str.mk [])), 0, 0)
  else
    need (0 ≤ w64 (n_0 - 1) ∧ w64 (n_0 - 1) < c_1.Objects.length) <|
    some (ix c_1.Objects (w64 (n_0 - 1)), 0, 0)
def ir_file_Of_1 : IC :=
 (.seq (.reg none [i1 3 (.allocL [.int .i64 0, .int .i64 0, .str [], .sl true 4 0 [], .bool false, .str []]),
 i1 4 (.mov false (.c (.int .i64 0))),
 i1 5 (.mov false (.c (.int .i64 0)))] [0, 1, 3])
 (.seq (.seq (.reg none [mv 6 0,
 i1 7 (.bin .lss (.t 6) (.c (.int .i64 1))),
 mv 8 7,
 mvg 9 0 8 false,
 i1g 10 8 false (.fieldAddr 0 (.t 1)),
 i1g 11 8 false (.loadR [.sl false 6 0 []] false (.t 10)),
 i1g 12 8 false (.len 0 (.t 11)),
 i1g 13 8 false (.bin .gtr (.t 9) (.t 12)),
 i1 14 (.pick (.t 8) (.c (.bool true)) (.t 13))] [0, 1, 3, 14])
 (.cond (.t 14) (.seq (.reg none [i1 15 (.build [.int .i64 0, .int .i64 0, .str [], .sl true 4 0 [], .bool false, .str []] []),
 i0 (.store 6 (.t 3) (.t 15)),
 i1 4 (.mov false (.c (.int .i64 0))),
 i1 5 (.mov false (.c (.int .i64 0)))] [3, 4, 5])
 .ret)
 .skip))
 (.seq (.reg none [i1 16 (.fieldAddr 0 (.t 1)),
 i1 17 (.loadR [.sl false 6 0 []] false (.t 16)),
 mv 18 0,
 i1 19 (.bin .sub (.t 18) (.c (.int .i64 1))),
 i1 20 (.indexAddr [.int .i64 0, .int .i64 0, .str [], .sl false 4 0 [], .bool false, .str []] (.t 17) (.t 19)),
 i1 21 (.load 6 true (.t 20)),
 i0 (.store 6 (.t 3) (.t 21)),
 i1 4 (.mov false (.c (.int .i64 0))),
 i1 5 (.mov false (.c (.int .i64 0)))] [3, 4, 5])
 .ret)))
def res_file_Of_1 : List IRes := [⟨3, false, some (6, true)⟩, ⟨4, true, none⟩, ⟨5, true, none⟩]
theorem is_file_Of_1 : fnIs Go.Proofs.Tryz.prog 34 22 res_file_Of_1 ir_file_Of_1 = true := by kernel_rfl
theorem file_Of_1_fn {n_0 c_1} {B1 : Nat} {s : Store} {Q : List AV → Store → Prop} (hB1 : s B1 = some (.cells [.sl false 6 c_1.Objects.length (flat c_1.Objects), .int .i64 c_1.Root])) : ok (file_Of_1 n_0 c_1) (fun r => Q [.agg [.int .i64 r.1.V.Kind, .int .i64 r.1.V.N, .str r.1.V.S.b, .sl false 4 r.1.V.L.length (flat r.1.V.L), .bool r.1.Stream, .str r.1.Data.b], .int .i64 r.2.1, .int .i64 r.2.2] s) → FN Go.Proofs.Tryz.prog 34 [.int .i64 n_0, .ref B1 0] s Q := by
  have hS : s = (s.set B1 (.cells [.sl false 6 c_1.Objects.length (flat c_1.Objects), .int .i64 c_1.Root])) := by simp only [set_eq' hB1]
  rw [hS]
  intro h
  refine FN.of (draw_ok mix) is_file_Of_1 rfl (Nat.le_of_ble_eq_true rfl) ?_
  revert h
  rw [ir_file_Of_1, res_file_Of_1, file_Of_1]
  repeat' (first
    | with_reducible exact tt_to
    | with_reducible refine and_to ?_ ?_
    | with_reducible refine im_to ?_
    | simp -implicitDefEqProofs only [go_sem, start, startE, resVs, resV, resC, allV, retK, Nat.reduceBEq, Nat.reduceAdd, Nat.reduceMul, Nat.reduceLeDiff, Nat.reduceEqDiff, Nat.reduceBNe, Nat.ble_eq, UInt8.reduceToNat])
theorem file_Of_1_fe {n_0 c_1} {B1 : Nat} {s : Store} {r : api_Object × Int × Int} (hB1 : s B1 = some (.cells [.sl false 6 c_1.Objects.length (flat c_1.Objects), .int .i64 c_1.Root])) (h : file_Of_1 n_0 c_1 = some r) : FE Go.Proofs.Tryz.prog 34 [.int .i64 n_0, .ref B1 0] s [.agg [.int .i64 r.1.V.Kind, .int .i64 r.1.V.N, .str r.1.V.S.b, .sl false 4 r.1.V.L.length (flat r.1.V.L), .bool r.1.Stream, .str r.1.Data.b], .int .i64 r.2.1, .int .i64 r.2.2] s := file_Of_1_fn hB1  ⟨r, h, rfl, rfl⟩
/-- (*catchword/file.File).Get -/
def file_File_Get (f_0 : file_File) (n_1 : Int) : Option (api_Object × Int × Int) :=
  bnd (file_File_is f_0) fun r1 =>
  if !r1 then
    some ((api_Object.mk (api_Value.mk 0 0 (Str.mk []) ([] : List api_Value)) false (Str.mk [])), 0, 1)
  else
    bnd (file_Of_1 n_1 f_0.get_) fun r2 =>
    some (r2.1, r2.2.1, r2.2.2)
def ir_file_File_Get : IC :=
 (.seq (.reg none [i1 4 (.allocL [.int .i64 0, .int .i64 0, .str [], .sl true 4 0 [], .bool false, .str []]),
 i1 5 (.mov false (.c (.int .i64 0))),
 i1 6 (.mov false (.c (.int .i64 0)))] [0, 1, 4])
 (.seq (.seq (.reg none [mv 7 0,
 i1 8 (.call 58 [(.t 7)]),
 i1 9 (.un .not (.t 8))] [0, 1, 4, 9])
 (.cond (.t 9) (.seq (.reg none [i1 10 (.build [.int .i64 0, .int .i64 0, .str [], .sl true 4 0 [], .bool false, .str []] []),
 i0 (.store 6 (.t 4) (.t 10)),
 i1 5 (.mov false (.c (.int .i64 0))),
 i1 6 (.mov false (.c (.int .i64 1)))] [4, 5, 6])
 .ret)
 .skip))
 (.seq (.reg none [mv 11 0,
 i1 12 (.nilCheck (.t 11)),
 i1 13 (.fieldAddr 2 (.t 12)),
 i1 14 (.loadR [.nilf] false (.t 13)),
 mv 15 1,
 i1 16 (.callv (.t 14) [(.t 15)]),
 i1 17 (.extract (.t 16) 0),
 i1 18 (.extract (.t 16) 1),
 i1 19 (.extract (.t 16) 2),
 i0 (.store 6 (.t 4) (.t 17)),
 mv 5 18,
 mv 6 19] [4, 5, 6])
 .ret)))
def res_file_File_Get : List IRes := [⟨4, false, some (6, true)⟩, ⟨5, true, none⟩, ⟨6, true, none⟩]
theorem is_file_File_Get : fnIs Go.Proofs.Tryz.prog 33 20 res_file_File_Get ir_file_File_Get = true := by kernel_rfl
theorem file_File_Get_fn {f_0 n_1} {B0 B0_get_ : Nat} {s : Store} {Q : List AV → Store → Prop} (hB0 : s B0 = some (.cells [.int .i64 f_0.root_, .int .i64 f_0.count_, .fn 34 [] [.ref B0_get_ 0]])) (hB0_get_ : s B0_get_ = some (.cells [.sl false 6 f_0.get_.Objects.length (flat f_0.get_.Objects), .int .i64 f_0.get_.Root])) (nB0B0_get_ : B0 ≠ B0_get_) : ok (file_File_Get f_0 n_1) (fun r => Q [.agg [.int .i64 r.1.V.Kind, .int .i64 r.1.V.N, .str r.1.V.S.b, .sl false 4 r.1.V.L.length (flat r.1.V.L), .bool r.1.Stream, .str r.1.Data.b], .int .i64 r.2.1, .int .i64 r.2.2] s) → FN Go.Proofs.Tryz.prog 33 [.ref B0 0, .int .i64 n_1] s Q := by
  have hS : s = ((s.set B0 (.cells [.int .i64 f_0.root_, .int .i64 f_0.count_, .fn 34 [] [.ref B0_get_ 0]])).set B0_get_ (.cells [.sl false 6 f_0.get_.Objects.length (flat f_0.get_.Objects), .int .i64 f_0.get_.Root])) := by simp only [set_eq' hB0, set_eq' hB0_get_]
  rw [hS]
  intro h
  refine FN.of (draw_ok mix) is_file_File_Get rfl (Nat.le_of_ble_eq_true rfl) ?_
  revert h
  rw [ir_file_File_Get, res_file_File_Get, file_File_Get]
  repeat' (first
    | with_reducible exact tt_to
    | with_reducible refine and_to ?_ ?_
    | with_reducible refine im_to ?_
    | with_reducible refine call_to (fun _ (h : file_File_is f_0 = some _) => file_File_is_fe (B0 := B0) (B0_get_ := B0_get_) (by simp -implicitDefEqProofs only [go_sem, start, startE, resVs, resV, resC, allV, retK, Nat.reduceBEq, Nat.reduceAdd, Nat.reduceMul, Nat.reduceLeDiff, Nat.reduceEqDiff, Nat.reduceBNe, Nat.ble_eq, UInt8.reduceToNat, set_ne nB0B0_get_, set_ne nB0B0_get_.symm, set_comm nB0B0_get_, fnok_34]) (by simp -implicitDefEqProofs only [go_sem, start, startE, resVs, resV, resC, allV, retK, Nat.reduceBEq, Nat.reduceAdd, Nat.reduceMul, Nat.reduceLeDiff, Nat.reduceEqDiff, Nat.reduceBNe, Nat.ble_eq, UInt8.reduceToNat, set_ne nB0B0_get_, set_ne nB0B0_get_.symm, set_comm nB0B0_get_, fnok_34]) nB0B0_get_ h) (fun r1 => ?_)
    | with_reducible refine call_to_q (fun _ (h : file_File_is f_0 = some _) => file_File_is_fe (B0 := B0) (B0_get_ := B0_get_) (by simp -implicitDefEqProofs only [go_sem, start, startE, resVs, resV, resC, allV, retK, Nat.reduceBEq, Nat.reduceAdd, Nat.reduceMul, Nat.reduceLeDiff, Nat.reduceEqDiff, Nat.reduceBNe, Nat.ble_eq, UInt8.reduceToNat, set_ne nB0B0_get_, set_ne nB0B0_get_.symm, set_comm nB0B0_get_, fnok_34]) (by simp -implicitDefEqProofs only [go_sem, start, startE, resVs, resV, resC, allV, retK, Nat.reduceBEq, Nat.reduceAdd, Nat.reduceMul, Nat.reduceLeDiff, Nat.reduceEqDiff, Nat.reduceBNe, Nat.ble_eq, UInt8.reduceToNat, set_ne nB0B0_get_, set_ne nB0B0_get_.symm, set_comm nB0B0_get_, fnok_34]) nB0B0_get_ h) (fun _ => rfl) (fun r1 => ?_)
    | with_reducible refine call_to (fun _ (h : file_Of_1 n_1 f_0.get_ = some _) => file_Of_1_fe (B1 := B0_get_) (by simp -implicitDefEqProofs only [go_sem, start, startE, resVs, resV, resC, allV, retK, Nat.reduceBEq, Nat.reduceAdd, Nat.reduceMul, Nat.reduceLeDiff, Nat.reduceEqDiff, Nat.reduceBNe, Nat.ble_eq, UInt8.reduceToNat, set_ne nB0B0_get_, set_ne nB0B0_get_.symm, set_comm nB0B0_get_, fnok_34])  h) (fun r2 => ?_)
    | with_reducible refine call_to_q (fun _ (h : file_Of_1 n_1 f_0.get_ = some _) => file_Of_1_fe (B1 := B0_get_) (by simp -implicitDefEqProofs only [go_sem, start, startE, resVs, resV, resC, allV, retK, Nat.reduceBEq, Nat.reduceAdd, Nat.reduceMul, Nat.reduceLeDiff, Nat.reduceEqDiff, Nat.reduceBNe, Nat.ble_eq, UInt8.reduceToNat, set_ne nB0B0_get_, set_ne nB0B0_get_.symm, set_comm nB0B0_get_, fnok_34])  h) (fun _ => rfl) (fun r2 => ?_)
    | simp -implicitDefEqProofs only [go_sem, start, startE, resVs, resV, resC, allV, retK, Nat.reduceBEq, Nat.reduceAdd, Nat.reduceMul, Nat.reduceLeDiff, Nat.reduceEqDiff, Nat.reduceBNe, Nat.ble_eq, UInt8.reduceToNat, set_ne nB0B0_get_, set_ne nB0B0_get_.symm, set_comm nB0B0_get_, fnok_34])
theorem file_File_Get_fe {f_0 n_1} {B0 B0_get_ : Nat} {s : Store} {r : api_Object × Int × Int} (hB0 : s B0 = some (.cells [.int .i64 f_0.root_, .int .i64 f_0.count_, .fn 34 [] [.ref B0_get_ 0]])) (hB0_get_ : s B0_get_ = some (.cells [.sl false 6 f_0.get_.Objects.length (flat f_0.get_.Objects), .int .i64 f_0.get_.Root])) (nB0B0_get_ : B0 ≠ B0_get_) (h : file_File_Get f_0 n_1 = some r) : FE Go.Proofs.Tryz.prog 33 [.ref B0 0, .int .i64 n_1] s [.agg [.int .i64 r.1.V.Kind, .int .i64 r.1.V.N, .str r.1.V.S.b, .sl false 4 r.1.V.L.length (flat r.1.V.L), .bool r.1.Stream, .str r.1.Data.b], .int .i64 r.2.1, .int .i64 r.2.2] s := file_File_Get_fn hB0 hB0_get_ nB0B0_get_ ⟨r, h, rfl, rfl⟩
/-- catchword/value.Get -/
def value_Get (v_0 : api_Value) (key_1 : Str) : Option (api_Value × Bool) :=
  bnd (value_find v_0 key_1) fun r1 =>
  if decide (r1 < 0) then
    some ((api_Value.mk 0 0 (Str.mk []) ([] : List api_Value)), false)
  else
    if (w64 (r1 + 1)) == (v_0.L.length : Int) then
      some ((api_Value.mk 0 0 (Str.mk []) ([] : List api_Value)), true)
    else
      need (0 ≤ w64 (r1 + 1) ∧ w64 (r1 + 1) < v_0.L.length) <|
      some (ix v_0.L (w64 (r1 + 1)), true)
def ir_value_Get : IC :=
 (.seq (.reg none [i1 2 (.boxL 4 (.t 0)),
 i1 4 (.allocL [.int .i64 0, .int .i64 0, .str [], .sl true 4 0 []]),
 i1 5 (.mov false (.c (.bool false)))] [1, 2, 4])
 (.seq (.reg none [i1 7 (.load 4 true (.t 2)),
 mv 8 1,
 i1 9 (.call 67 [(.t 7), (.t 8)]),
 mv 6 9] [2, 4, 6])
 (.seq (.block 0 (.seq (.reg none [mv 11 6,
 i1 12 (.bin .lss (.t 11) (.c (.int .i64 0))),
 mv 10 12] [2, 4, 6, 10])
 (.cond (.t 10) (.seq (.reg none [i1 13 (.build [.int .i64 0, .int .i64 0, .str [], .sl true 4 0 []] []),
 i0 (.store 4 (.t 4) (.t 13)),
 i1 5 (.mov false (.c (.bool false)))] [4, 5])
 .ret)
 (.seq (.reg none [mv 15 6,
 i1 16 (.bin .add (.t 15) (.c (.int .i64 1))),
 i1 17 (.fieldAddr 3 (.t 2)),
 i1 18 (.load 1 false (.t 17)),
 i1 19 (.len 0 (.t 18)),
 i1 20 (.bin .eql (.t 16) (.t 19)),
 mv 14 20] [2, 4, 6, 14])
 (.cond (.t 14) (.seq (.reg none [i1 21 (.build [.int .i64 0, .int .i64 0, .str [], .sl true 4 0 []] []),
 i0 (.store 4 (.t 4) (.t 21)),
 i1 5 (.mov false (.c (.bool true)))] [4, 5])
 .ret)
 .skip)))))
 (.seq (.reg none [i1 22 (.fieldAddr 3 (.t 2)),
 i1 23 (.load 1 false (.t 22)),
 mv 24 6,
 i1 25 (.bin .add (.t 24) (.c (.int .i64 1))),
 i1 26 (.indexAddr [.int .i64 0, .int .i64 0, .str [], .sl false 4 0 []] (.t 23) (.t 25)),
 i1 27 (.load 4 true (.t 26)),
 i0 (.store 4 (.t 4) (.t 27)),
 i1 5 (.mov false (.c (.bool true)))] [4, 5])
 .ret))))
def res_value_Get : List IRes := [⟨4, false, some (4, true)⟩, ⟨5, true, none⟩]
theorem is_value_Get : fnIs Go.Proofs.Tryz.prog 41 28 res_value_Get ir_value_Get = true := by kernel_rfl
theorem value_Get_fn {v_0 key_1} {s : Store} {Q : List AV → Store → Prop}  : ok (value_Get v_0 key_1) (fun r => Q [.agg [.int .i64 r.1.Kind, .int .i64 r.1.N, .str r.1.S.b, .sl false 4 r.1.L.length (flat r.1.L)], .bool r.2] s) → FN Go.Proofs.Tryz.prog 41 [.agg [.int .i64 v_0.Kind, .int .i64 v_0.N, .str v_0.S.b, .sl false 4 v_0.L.length (flat v_0.L)], .str key_1.b] s Q := by
  intro h
  refine FN.of (draw_ok mix) is_value_Get rfl (Nat.le_of_ble_eq_true rfl) ?_
  revert h
  rw [ir_value_Get, res_value_Get, value_Get]
  repeat' (first
    | with_reducible exact tt_to
    | with_reducible refine and_to ?_ ?_
    | with_reducible refine im_to ?_
    | with_reducible refine call_to (fun _ (h : value_find v_0 key_1 = some _) => value_find_fe h) (fun r1 => ?_)
    | with_reducible refine call_to_q (fun _ (h : value_find v_0 key_1 = some _) => value_find_fe h) (fun _ => rfl) (fun r1 => ?_)
    | with_reducible refine call_to (fun _ (h : value_find v_0 key_1 = some _) => (by refine FE_cast ?_ (value_find_fe h); simp -implicitDefEqProofs only [go_sem, start, startE, resVs, resV, resC, allV, retK, Nat.reduceBEq, Nat.reduceAdd, Nat.reduceMul, Nat.reduceLeDiff, Nat.reduceEqDiff, Nat.reduceBNe, Nat.ble_eq, UInt8.reduceToNat])) (fun r1 => ?_)
    | with_reducible refine call_to_q (fun _ (h : value_find v_0 key_1 = some _) => (by refine FE_cast ?_ (value_find_fe h); simp -implicitDefEqProofs only [go_sem, start, startE, resVs, resV, resC, allV, retK, Nat.reduceBEq, Nat.reduceAdd, Nat.reduceMul, Nat.reduceLeDiff, Nat.reduceEqDiff, Nat.reduceBNe, Nat.ble_eq, UInt8.reduceToNat])) (fun _ => rfl) (fun r1 => ?_)
    | simp -implicitDefEqProofs only [go_sem, start, startE, resVs, resV, resC, allV, retK, Nat.reduceBEq, Nat.reduceAdd, Nat.reduceMul, Nat.reduceLeDiff, Nat.reduceEqDiff, Nat.reduceBNe, Nat.ble_eq, UInt8.reduceToNat])
theorem value_Get_fe {v_0 key_1} {s : Store} {r : api_Value × Bool}  (h : value_Get v_0 key_1 = some r) : FE Go.Proofs.Tryz.prog 41 [.agg [.int .i64 v_0.Kind, .int .i64 v_0.N, .str v_0.S.b, .sl false 4 v_0.L.length (flat v_0.L)], .str key_1.b] s [.agg [.int .i64 r.1.Kind, .int .i64 r.1.N, .str r.1.S.b, .sl false 4 r.1.L.length (flat r.1.L)], .bool r.2] s := value_Get_fn   ⟨r, h, rfl, rfl⟩
/-- catchword/tree.typed -/
def tree_typed (o_0 : api_Object) (name_1 : Str) : Option (Bool) :=
  bnd (value_Get o_0.V (Str.mk [84, 121, 112, 101])) fun r1 =>
  some ((!o_0.Stream && (r1.1.Kind == 5)) && (r1.1.S.b == name_1.b))
def ir_tree_typed : IC :=
 (.seq (.reg none [i1 2 (.boxL 6 (.t 0)),
 i1 4 (.mov false (.c (.bool false)))] [1, 2])
 (.seq (.reg none [i1 8 (.fieldAddr 0 (.t 2)),
 i1 9 (.load 4 true (.t 8)),
 i1 10 (.call 41 [(.t 9), (.c (.str [84, 121, 112, 101]))]),
 i1 7 (.movT (.t 10)),
 i1 11 (.extract (.t 7) 0),
 i1 12 (.extract (.t 7) 1),
 i1 5 (.allocL [.int .i64 0, .int .i64 0, .str [], .sl true 4 0 []]),
 i0 (.store 4 (.t 5) (.t 11)),
 mv 6 12] [1, 2, 5])
 (.seq (.reg none [i1 13 (.fieldAddr 4 (.t 2)),
 i1 14 (.load 1 false (.t 13)),
 i1 15 (.un .not (.t 14)),
 mv 16 15,
 i1g 17 16 true (.fieldAddr 0 (.t 5)),
 i1g 18 16 true (.load 1 false (.t 17)),
 i1g 19 16 true (.bin .eql (.t 18) (.c (.int .i64 5))),
 i1 20 (.pick (.t 16) (.t 19) (.c (.bool false))),
 mv 21 20,
 i1g 22 21 true (.fieldAddr 2 (.t 5)),
 i1g 23 21 true (.load 1 false (.t 22)),
 mvg 24 1 21 true,
 i1g 25 21 true (.bin .eql (.t 23) (.t 24)),
 i1 26 (.pick (.t 21) (.t 25) (.c (.bool false))),
 mv 4 26] [4])
 .ret)))
def res_tree_typed : List IRes := [⟨4, true, none⟩]
theorem is_tree_typed : fnIs Go.Proofs.Tryz.prog 71 27 res_tree_typed ir_tree_typed = true := by kernel_rfl
theorem tree_typed_fn {o_0 name_1} {s : Store} {Q : List AV → Store → Prop}  : ok (tree_typed o_0 name_1) (fun r => Q [.bool r] s) → FN Go.Proofs.Tryz.prog 71 [.agg [.int .i64 o_0.V.Kind, .int .i64 o_0.V.N, .str o_0.V.S.b, .sl false 4 o_0.V.L.length (flat o_0.V.L), .bool o_0.Stream, .str o_0.Data.b], .str name_1.b] s Q := by
  intro h
  refine FN.of (draw_ok mix) is_tree_typed rfl (Nat.le_of_ble_eq_true rfl) ?_
  revert h
  rw [ir_tree_typed, res_tree_typed, tree_typed]
  repeat' (first
    | with_reducible exact tt_to
    | with_reducible refine and_to ?_ ?_
    | with_reducible refine im_to ?_
    | with_reducible refine call_to (fun _ (h : value_Get o_0.V (Str.mk [84, 121, 112, 101]) = some _) => value_Get_fe h) (fun r1 => ?_)
    | with_reducible refine call_to_q (fun _ (h : value_Get o_0.V (Str.mk [84, 121, 112, 101]) = some _) => value_Get_fe h) (fun _ => rfl) (fun r1 => ?_)
    | with_reducible refine call_to (fun _ (h : value_Get o_0.V (Str.mk [84, 121, 112, 101]) = some _) => (by refine FE_cast ?_ (value_Get_fe h); simp -implicitDefEqProofs only [go_sem, start, startE, resVs, resV, resC, allV, retK, Nat.reduceBEq, Nat.reduceAdd, Nat.reduceMul, Nat.reduceLeDiff, Nat.reduceEqDiff, Nat.reduceBNe, Nat.ble_eq, UInt8.reduceToNat])) (fun r1 => ?_)
    | with_reducible refine call_to_q (fun _ (h : value_Get o_0.V (Str.mk [84, 121, 112, 101]) = some _) => (by refine FE_cast ?_ (value_Get_fe h); simp -implicitDefEqProofs only [go_sem, start, startE, resVs, resV, resC, allV, retK, Nat.reduceBEq, Nat.reduceAdd, Nat.reduceMul, Nat.reduceLeDiff, Nat.reduceEqDiff, Nat.reduceBNe, Nat.ble_eq, UInt8.reduceToNat])) (fun _ => rfl) (fun r1 => ?_)
    | simp -implicitDefEqProofs only [go_sem, start, startE, resVs, resV, resC, allV, retK, Nat.reduceBEq, Nat.reduceAdd, Nat.reduceMul, Nat.reduceLeDiff, Nat.reduceEqDiff, Nat.reduceBNe, Nat.ble_eq, UInt8.reduceToNat])
theorem tree_typed_fe {o_0 name_1} {s : Store} {r : Bool}  (h : tree_typed o_0 name_1 = some r) : FE Go.Proofs.Tryz.prog 71 [.agg [.int .i64 o_0.V.Kind, .int .i64 o_0.V.N, .str o_0.V.S.b, .sl false 4 o_0.V.L.length (flat o_0.V.L), .bool o_0.Stream, .str o_0.Data.b], .str name_1.b] s [.bool r] s := tree_typed_fn   ⟨r, h, rfl, rfl⟩
/-- catchword/tree.Root -/
def tree_Root (o_0 : api_Object) : Option (Int × Bool) :=
  bnd (value_Get o_0.V (Str.mk [80, 97, 103, 101, 115])) fun r1 =>
  bnd (tree_typed o_0 (Str.mk [67, 97, 116, 97, 108, 111, 103])) fun r2 =>
  if !r2 || (r1.1.Kind != 8) then
    some (0, false)
  else
    some (r1.1.N, true)
def ir_tree_Root : IC :=
 (.seq (.reg none [i1 1 (.boxL 6 (.t 0)),
 i1 2 (.mov false (.c (.int .i64 0))),
 i1 3 (.mov false (.c (.bool false)))] [1])
 (.seq (.reg none [i1 7 (.fieldAddr 0 (.t 1)),
 i1 8 (.load 4 true (.t 7)),
 i1 9 (.call 41 [(.t 8), (.c (.str [80, 97, 103, 101, 115]))]),
 i1 6 (.movT (.t 9)),
 i1 10 (.extract (.t 6) 0),
 i1 11 (.extract (.t 6) 1),
 i1 4 (.allocL [.int .i64 0, .int .i64 0, .str [], .sl true 4 0 []]),
 i0 (.store 4 (.t 4) (.t 10)),
 mv 5 11] [1, 4])
 (.seq (.seq (.reg none [i1 12 (.load 6 true (.t 1)),
 i1 13 (.call 71 [(.t 12), (.c (.str [67, 97, 116, 97, 108, 111, 103]))]),
 i1 14 (.un .not (.t 13)),
 mv 15 14,
 i1g 16 15 false (.fieldAddr 0 (.t 4)),
 i1g 17 15 false (.load 1 false (.t 16)),
 i1g 18 15 false (.bin .neq (.t 17) (.c (.int .i64 8))),
 i1 19 (.pick (.t 15) (.c (.bool true)) (.t 18))] [4, 19])
 (.cond (.t 19) (.seq (.reg none [i1 2 (.mov false (.c (.int .i64 0))),
 i1 3 (.mov false (.c (.bool false)))] [2, 3])
 .ret)
 .skip))
 (.seq (.reg none [i1 20 (.fieldAddr 1 (.t 4)),
 i1 21 (.load 1 false (.t 20)),
 mv 2 21,
 i1 3 (.mov false (.c (.bool true)))] [2, 3])
 .ret))))
def res_tree_Root : List IRes := [⟨2, true, none⟩, ⟨3, true, none⟩]
theorem is_tree_Root : fnIs Go.Proofs.Tryz.prog 69 22 res_tree_Root ir_tree_Root = true := by kernel_rfl
theorem tree_Root_fn {o_0} {s : Store} {Q : List AV → Store → Prop}  : ok (tree_Root o_0) (fun r => Q [.int .i64 r.1, .bool r.2] s) → FN Go.Proofs.Tryz.prog 69 [.agg [.int .i64 o_0.V.Kind, .int .i64 o_0.V.N, .str o_0.V.S.b, .sl false 4 o_0.V.L.length (flat o_0.V.L), .bool o_0.Stream, .str o_0.Data.b]] s Q := by
  intro h
  refine FN.of (draw_ok mix) is_tree_Root rfl (Nat.le_of_ble_eq_true rfl) ?_
  revert h
  rw [ir_tree_Root, res_tree_Root, tree_Root]
  repeat' (first
    | with_reducible exact tt_to
    | with_reducible refine and_to ?_ ?_
    | with_reducible refine im_to ?_
    | with_reducible refine call_to (fun _ (h : value_Get o_0.V (Str.mk [80, 97, 103, 101, 115]) = some _) => value_Get_fe h) (fun r1 => ?_)
    | with_reducible refine call_to_q (fun _ (h : value_Get o_0.V (Str.mk [80, 97, 103, 101, 115]) = some _) => value_Get_fe h) (fun _ => rfl) (fun r1 => ?_)
    | with_reducible refine call_to (fun _ (h : value_Get o_0.V (Str.mk [80, 97, 103, 101, 115]) = some _) => (by refine FE_cast ?_ (value_Get_fe h); simp -implicitDefEqProofs only [go_sem, start, startE, resVs, resV, resC, allV, retK, Nat.reduceBEq, Nat.reduceAdd, Nat.reduceMul, Nat.reduceLeDiff, Nat.reduceEqDiff, Nat.reduceBNe, Nat.ble_eq, UInt8.reduceToNat])) (fun r1 => ?_)
    | with_reducible refine call_to_q (fun _ (h : value_Get o_0.V (Str.mk [80, 97, 103, 101, 115]) = some _) => (by refine FE_cast ?_ (value_Get_fe h); simp -implicitDefEqProofs only [go_sem, start, startE, resVs, resV, resC, allV, retK, Nat.reduceBEq, Nat.reduceAdd, Nat.reduceMul, Nat.reduceLeDiff, Nat.reduceEqDiff, Nat.reduceBNe, Nat.ble_eq, UInt8.reduceToNat])) (fun _ => rfl) (fun r1 => ?_)
    | with_reducible refine call_to (fun _ (h : tree_typed o_0 (Str.mk [67, 97, 116, 97, 108, 111, 103]) = some _) => tree_typed_fe h) (fun r2 => ?_)
    | with_reducible refine call_to_q (fun _ (h : tree_typed o_0 (Str.mk [67, 97, 116, 97, 108, 111, 103]) = some _) => tree_typed_fe h) (fun _ => rfl) (fun r2 => ?_)
    | with_reducible refine call_to (fun _ (h : tree_typed o_0 (Str.mk [67, 97, 116, 97, 108, 111, 103]) = some _) => (by refine FE_cast ?_ (tree_typed_fe h); simp -implicitDefEqProofs only [go_sem, start, startE, resVs, resV, resC, allV, retK, Nat.reduceBEq, Nat.reduceAdd, Nat.reduceMul, Nat.reduceLeDiff, Nat.reduceEqDiff, Nat.reduceBNe, Nat.ble_eq, UInt8.reduceToNat])) (fun r2 => ?_)
    | with_reducible refine call_to_q (fun _ (h : tree_typed o_0 (Str.mk [67, 97, 116, 97, 108, 111, 103]) = some _) => (by refine FE_cast ?_ (tree_typed_fe h); simp -implicitDefEqProofs only [go_sem, start, startE, resVs, resV, resC, allV, retK, Nat.reduceBEq, Nat.reduceAdd, Nat.reduceMul, Nat.reduceLeDiff, Nat.reduceEqDiff, Nat.reduceBNe, Nat.ble_eq, UInt8.reduceToNat])) (fun _ => rfl) (fun r2 => ?_)
    | simp -implicitDefEqProofs only [go_sem, start, startE, resVs, resV, resC, allV, retK, Nat.reduceBEq, Nat.reduceAdd, Nat.reduceMul, Nat.reduceLeDiff, Nat.reduceEqDiff, Nat.reduceBNe, Nat.ble_eq, UInt8.reduceToNat])
theorem tree_Root_fe {o_0} {s : Store} {r : Int × Bool}  (h : tree_Root o_0 = some r) : FE Go.Proofs.Tryz.prog 69 [.agg [.int .i64 o_0.V.Kind, .int .i64 o_0.V.N, .str o_0.V.S.b, .sl false 4 o_0.V.L.length (flat o_0.V.L), .bool o_0.Stream, .str o_0.Data.b]] s [.int .i64 r.1, .bool r.2] s := tree_Root_fn   ⟨r, h, rfl, rfl⟩
/-- catchword/tree.nodeOf -/
def tree_nodeOf (n_0 : Int) (o_1 : api_Object) : Option (tree_node × Bool) :=
  bnd (value_Get o_1.V (Str.mk [75, 105, 100, 115])) fun r1 =>
  bnd (value_Get o_1.V (Str.mk [67, 111, 117, 110, 116])) fun r2 =>
  bnd (tree_typed o_1 (Str.mk [80, 97, 103, 101, 115])) fun r3 =>
  if ((!r3 || (r1.1.Kind != 6)) || ((r1.1.L.length : Int) == 0)) || (r2.1.Kind != 2) then
    some ((tree_node.mk n_0 o_1.V ([] : List Int) 0), false)
  else
    jnS (
      bndS (
        iter (fun ((x9, t10) : tree_node × Int) =>
          if decide (t10 < (r1.1.L.length : Int)) then
            need (0 ≤ t10 ∧ t10 < r1.1.L.length) <|
            if ((ix r1.1.L t10).Kind) != 8 then
              some (.inr (.inr (x9, false)))
            else
              need ((x9.kids_.length + [(ix r1.1.L t10).N].length) * 8 ≤ room) <|
              some (.inl ((tree_node.mk x9.n_ x9.v_ (x9.kids_ ++ [(ix r1.1.L t10).N]) x9.count_), w64 (t10 + 1)))
          else
            some (.inr (.inl x9))) ((tree_node.mk n_0 o_1.V ([] : List Int) 0), 0)) (fun (x12 : tree_node) =>
        some (.inl x12))
      (fun ((t14, t15) : tree_node × Bool) => some (.inr (t14, t15)))) (fun (x5 : tree_node) =>
      some ((tree_node.mk x5.n_ x5.v_ x5.kids_ r2.1.N), (decide (r2.1.N ≥ (x5.kids_.length : Int))) && (decide (r2.1.N ≤ 2048))))
    (fun ((t7, t8) : tree_node × Bool) => some (t7, t8))
def ir_tree_nodeOf : IC :=
 (.seq (.reg none [i1 3 (.boxL 6 (.t 1)),
 i1 4 (.allocL [.int .i64 0, .int .i64 0, .int .i64 0, .str [], .sl true 4 0 [], .sl true 1 0 [], .int .i64 0]),
 i1 5 (.mov false (.c (.bool false)))] [0, 3, 4])
 (.seq (.reg none [mv 13 0,
 i1 14 (.fieldAddr 0 (.t 3)),
 i1 15 (.load 4 true (.t 14)),
 i1 16 (.build [.int .i64 0, .int .i64 0, .int .i64 0, .str [], .sl true 4 0 [], .arr 0 0 0 0, .int .i64 0] [(0, 1, (.t 13)), (1, 4, (.t 15))]),
 i1 6 (.allocL [.int .i64 0, .int .i64 0, .int .i64 0, .str [], .sl true 4 0 [], .sl true 1 0 [], .int .i64 0]),
 i0 (.storeN 1 7 (.t 6) (.t 16))] [3, 4, 6])
 (.seq (.reg none [i1 18 (.fieldAddr 0 (.t 3)),
 i1 19 (.load 4 true (.t 18)),
 i1 20 (.call 41 [(.t 19), (.c (.str [75, 105, 100, 115]))]),
 i1 17 (.movT (.t 20)),
 i1 21 (.extract (.t 17) 0),
 i1 22 (.extract (.t 17) 1),
 i1 7 (.allocL [.int .i64 0, .int .i64 0, .str [], .sl true 4 0 []]),
 i0 (.store 4 (.t 7) (.t 21)),
 mv 8 22] [3, 4, 6, 7])
 (.seq (.reg none [i1 24 (.fieldAddr 0 (.t 3)),
 i1 25 (.load 4 true (.t 24)),
 i1 26 (.call 41 [(.t 25), (.c (.str [67, 111, 117, 110, 116]))]),
 i1 23 (.movT (.t 26)),
 i1 27 (.extract (.t 23) 0),
 i1 28 (.extract (.t 23) 1),
 i1 9 (.allocL [.int .i64 0, .int .i64 0, .str [], .sl true 4 0 []]),
 i0 (.store 4 (.t 9) (.t 27)),
 mv 10 28] [3, 4, 6, 7, 9])
 (.seq (.seq (.reg none [i1 29 (.load 6 true (.t 3)),
 i1 30 (.call 71 [(.t 29), (.c (.str [80, 97, 103, 101, 115]))]),
 i1 31 (.un .not (.t 30)),
 mv 32 31,
 i1g 33 32 false (.fieldAddr 0 (.t 7)),
 i1g 34 32 false (.load 1 false (.t 33)),
 i1g 35 32 false (.bin .neq (.t 34) (.c (.int .i64 6))),
 i1 36 (.pick (.t 32) (.c (.bool true)) (.t 35)),
 mv 37 36,
 i1g 38 37 false (.fieldAddr 3 (.t 7)),
 i1g 39 37 false (.load 1 false (.t 38)),
 i1g 40 37 false (.len 0 (.t 39)),
 i1g 41 37 false (.bin .eql (.t 40) (.c (.int .i64 0))),
 i1 42 (.pick (.t 37) (.c (.bool true)) (.t 41)),
 mv 43 42,
 i1g 44 43 false (.fieldAddr 0 (.t 9)),
 i1g 45 43 false (.load 1 false (.t 44)),
 i1g 46 43 false (.bin .neq (.t 45) (.c (.int .i64 2))),
 i1 47 (.pick (.t 43) (.c (.bool true)) (.t 46))] [4, 6, 7, 9, 47])
 (.cond (.t 47) (.seq (.reg none [i1 48 (.load 7 true (.t 6)),
 i0 (.store 7 (.t 4) (.t 48)),
 i1 5 (.mov false (.c (.bool false)))] [4, 5])
 .ret)
 .skip))
 (.join [(4, false), (6, false), (9, false)] (.seq (.reg none [i1 49 (.fieldAddr 3 (.t 7)),
 i1 50 (.load 1 false (.t 49)),
 i1 51 (.len 0 (.t 50)),
 i1 52 (.mov false (.c (.int .i64 0)))] [4, 6, 9, 50, 51, 52])
 (.block 0 (.loop [(4, false), (6, false), (9, false), (50, true), (51, false), (52, false)] (.seq (.reg none [i1 53 (.bin .lss (.t 52) (.t 51))] [4, 6, 9, 50, 51, 52, 53])
 (.seq (.cond (.t 53) .skip
 (.exit 0))
 (.seq (.block 1 (.seq (.reg none [i1 54 (.indexAddr [.int .i64 0, .int .i64 0, .str [], .sl false 4 0 []] (.t 50) (.t 52)),
 i1 55 (.load 4 true (.t 54)),
 i1 12 (.allocL [.int .i64 0, .int .i64 0, .str [], .sl true 4 0 []]),
 i0 (.store 4 (.t 12) (.t 55))] [4, 6, 9, 12, 50, 51, 52])
 (.seq (.seq (.reg none [i1 56 (.fieldAddr 0 (.t 12)),
 i1 57 (.load 1 false (.t 56)),
 i1 58 (.bin .neq (.t 57) (.c (.int .i64 8)))] [4, 6, 9, 12, 50, 51, 52, 58])
 (.cond (.t 58) (.seq (.reg none [i1 59 (.load 7 true (.t 6)),
 i0 (.store 7 (.t 4) (.t 59)),
 i1 5 (.mov false (.c (.bool false)))] [4, 5])
 .ret)
 .skip))
 (.reg none [i1 60 (.fieldAddr 5 (.t 6)),
 i1 61 (.loadD (.t 60)),
 i1 62 (.fieldAddr 1 (.t 12)),
 i1 63 (.load 1 false (.t 62)),
 i1 64 (.buildSl 1 1 [.int .i64 0] [(0, 1, (.t 63))]),
 i1 65 (.append 1 8 (.t 61) (.t 64)),
 i1 66 (.fieldAddr 5 (.t 6)),
 i0 (.store 1 (.t 66) (.t 65))] [4, 6, 9, 50, 51, 52]))))
 (.reg none [i1 67 (.bin .add (.t 52) (.c (.int .i64 1))),
 mv 52 67] [4, 6, 9, 50, 51, 52])))))))
 (.seq (.reg none [i1 68 (.fieldAddr 1 (.t 9)),
 i1 69 (.load 1 false (.t 68)),
 i1 70 (.fieldAddr 6 (.t 6)),
 i0 (.store 1 (.t 70) (.t 69))] [4, 6])
 (.seq (.regT [4] 14 [i1 71 (.load 7 true (.t 6)),
 i1 72 (.fieldAddr 6 (.t 6)),
 i1 73 (.load 1 false (.t 72)),
 i1 74 (.fieldAddr 5 (.t 6)),
 i1 75 (.load 1 false (.t 74)),
 i1 76 (.len 0 (.t 75)),
 i1 77 (.bin .geq (.t 73) (.t 76)),
 mv 78 77,
 i1g 79 78 true (.fieldAddr 6 (.t 6)),
 i1g 80 78 true (.load 1 false (.t 79)),
 i1g 81 78 true (.bin .leq (.t 80) (.c (.int .i64 2048))),
 i1 82 (.pick (.t 78) (.t 81) (.c (.bool false))),
 i0 (.store 7 (.t 4) (.t 71)),
 mv 5 82] [4, 5])
 .ret))))))))
def res_tree_nodeOf : List IRes := [⟨4, false, some (7, true)⟩, ⟨5, true, none⟩]
theorem is_tree_nodeOf : fnIs Go.Proofs.Tryz.prog 46 83 res_tree_nodeOf ir_tree_nodeOf = true := by kernel_rfl
theorem tree_nodeOf_fn {n_0 o_1} {s : Store} {Q : List AV → Store → Prop}  : ok (tree_nodeOf n_0 o_1) (fun r => Q [.agg [.int .i64 r.1.n_, .int .i64 r.1.v_.Kind, .int .i64 r.1.v_.N, .str r.1.v_.S.b, .sl false 4 r.1.v_.L.length (flat r.1.v_.L), .sl false 1 r.1.kids_.length (flat r.1.kids_), .int .i64 r.1.count_], .bool r.2] s) → FN Go.Proofs.Tryz.prog 46 [.int .i64 n_0, .agg [.int .i64 o_1.V.Kind, .int .i64 o_1.V.N, .str o_1.V.S.b, .sl false 4 o_1.V.L.length (flat o_1.V.L), .bool o_1.Stream, .str o_1.Data.b]] s Q := by
  intro h
  refine FN.of (draw_ok mix) is_tree_nodeOf rfl (Nat.le_of_ble_eq_true rfl) ?_
  revert h
  rw [ir_tree_nodeOf, res_tree_nodeOf, tree_nodeOf]
  repeat' (first
    | with_reducible exact tt_to
    | ((with_reducible refine b_to ?_ ?_); exact rfl)
    | ((with_reducible refine n_to ?_ ?_); exact rfl)
    | with_reducible refine and_to ?_ ?_
    | with_reducible refine im_to ?_
    | with_reducible refine call_to (fun _ (h : value_Get o_1.V (Str.mk [75, 105, 100, 115]) = some _) => value_Get_fe h) (fun r1 => ?_)
    | with_reducible refine call_to_q (fun _ (h : value_Get o_1.V (Str.mk [75, 105, 100, 115]) = some _) => value_Get_fe h) (fun _ => rfl) (fun r1 => ?_)
    | with_reducible refine call_to (fun _ (h : value_Get o_1.V (Str.mk [75, 105, 100, 115]) = some _) => (by refine FE_cast ?_ (value_Get_fe h); simp -implicitDefEqProofs only [go_sem, start, startE, resVs, resV, resC, allV, retK, Nat.reduceBEq, Nat.reduceAdd, Nat.reduceMul, Nat.reduceLeDiff, Nat.reduceEqDiff, Nat.reduceBNe, Nat.ble_eq, UInt8.reduceToNat])) (fun r1 => ?_)
    | with_reducible refine call_to_q (fun _ (h : value_Get o_1.V (Str.mk [75, 105, 100, 115]) = some _) => (by refine FE_cast ?_ (value_Get_fe h); simp -implicitDefEqProofs only [go_sem, start, startE, resVs, resV, resC, allV, retK, Nat.reduceBEq, Nat.reduceAdd, Nat.reduceMul, Nat.reduceLeDiff, Nat.reduceEqDiff, Nat.reduceBNe, Nat.ble_eq, UInt8.reduceToNat])) (fun _ => rfl) (fun r1 => ?_)
    | with_reducible refine call_to (fun _ (h : value_Get o_1.V (Str.mk [67, 111, 117, 110, 116]) = some _) => value_Get_fe h) (fun r2 => ?_)
    | with_reducible refine call_to_q (fun _ (h : value_Get o_1.V (Str.mk [67, 111, 117, 110, 116]) = some _) => value_Get_fe h) (fun _ => rfl) (fun r2 => ?_)
    | with_reducible refine call_to (fun _ (h : value_Get o_1.V (Str.mk [67, 111, 117, 110, 116]) = some _) => (by refine FE_cast ?_ (value_Get_fe h); simp -implicitDefEqProofs only [go_sem, start, startE, resVs, resV, resC, allV, retK, Nat.reduceBEq, Nat.reduceAdd, Nat.reduceMul, Nat.reduceLeDiff, Nat.reduceEqDiff, Nat.reduceBNe, Nat.ble_eq, UInt8.reduceToNat])) (fun r2 => ?_)
    | with_reducible refine call_to_q (fun _ (h : value_Get o_1.V (Str.mk [67, 111, 117, 110, 116]) = some _) => (by refine FE_cast ?_ (value_Get_fe h); simp -implicitDefEqProofs only [go_sem, start, startE, resVs, resV, resC, allV, retK, Nat.reduceBEq, Nat.reduceAdd, Nat.reduceMul, Nat.reduceLeDiff, Nat.reduceEqDiff, Nat.reduceBNe, Nat.ble_eq, UInt8.reduceToNat])) (fun _ => rfl) (fun r2 => ?_)
    | with_reducible refine call_to (fun _ (h : tree_typed o_1 (Str.mk [80, 97, 103, 101, 115]) = some _) => tree_typed_fe h) (fun r3 => ?_)
    | with_reducible refine call_to_q (fun _ (h : tree_typed o_1 (Str.mk [80, 97, 103, 101, 115]) = some _) => tree_typed_fe h) (fun _ => rfl) (fun r3 => ?_)
    | with_reducible refine call_to (fun _ (h : tree_typed o_1 (Str.mk [80, 97, 103, 101, 115]) = some _) => (by refine FE_cast ?_ (tree_typed_fe h); simp -implicitDefEqProofs only [go_sem, start, startE, resVs, resV, resC, allV, retK, Nat.reduceBEq, Nat.reduceAdd, Nat.reduceMul, Nat.reduceLeDiff, Nat.reduceEqDiff, Nat.reduceBNe, Nat.ble_eq, UInt8.reduceToNat])) (fun r3 => ?_)
    | with_reducible refine call_to_q (fun _ (h : tree_typed o_1 (Str.mk [80, 97, 103, 101, 115]) = some _) => (by refine FE_cast ?_ (tree_typed_fe h); simp -implicitDefEqProofs only [go_sem, start, startE, resVs, resV, resC, allV, retK, Nat.reduceBEq, Nat.reduceAdd, Nat.reduceMul, Nat.reduceLeDiff, Nat.reduceEqDiff, Nat.reduceBNe, Nat.ble_eq, UInt8.reduceToNat])) (fun _ => rfl) (fun r3 => ?_)
    | ((with_reducible refine iter_to (fun ((x9, t10) : tree_node × Int) => ⟨[(4, .loc [.int .i64 0, .int .i64 0, .int .i64 0, .str (Str.mk []).b, .sl true 4 ([] : List api_Value).length (flat ([] : List api_Value)), .sl true 1 ([] : List Int).length (flat ([] : List Int)), .int .i64 0]), (6, .loc [.int .i64 x9.n_, .int .i64 x9.v_.Kind, .int .i64 x9.v_.N, .str x9.v_.S.b, .sl false 4 x9.v_.L.length (flat x9.v_.L), .sl true 1 x9.kids_.length (flat x9.kids_), .int .i64 x9.count_]), (9, .loc [.int .i64 r2.1.Kind, .int .i64 r2.1.N, .str r2.1.S.b, .sl false 4 r2.1.L.length (flat r2.1.L)]), (50, .sl false 4 r1.1.L.length (flat r1.1.L)), (51, .int .i64 (r1.1.L.length : Int)), (52, .int .i64 t10)], [], s⟩) ?_ ?_); (first | exact rfl | simp -implicitDefEqProofs only [go_sem, start, startE, resVs, resV, resC, allV, retK, Nat.reduceBEq, Nat.reduceAdd, Nat.reduceMul, Nat.reduceLeDiff, Nat.reduceEqDiff, Nat.reduceBNe, Nat.ble_eq, UInt8.reduceToNat]); rintro J ⟨x9, t10⟩)
    | ((with_reducible refine join_toS (fun (x5 : tree_node) => ⟨[(4, .loc [.int .i64 0, .int .i64 0, .int .i64 0, .str (Str.mk []).b, .sl true 4 ([] : List api_Value).length (flat ([] : List api_Value)), .sl true 1 ([] : List Int).length (flat ([] : List Int)), .int .i64 0]), (6, .loc [.int .i64 x5.n_, .int .i64 x5.v_.Kind, .int .i64 x5.v_.N, .str x5.v_.S.b, .sl false 4 x5.v_.L.length (flat x5.v_.L), .sl true 1 x5.kids_.length (flat x5.kids_), .int .i64 x5.count_]), (9, .loc [.int .i64 r2.1.Kind, .int .i64 r2.1.N, .str r2.1.S.b, .sl false 4 r2.1.L.length (flat r2.1.L)])], [], s⟩) (fun J => ?_) ?_); rotate_left; rintro x5)
    | simp -implicitDefEqProofs only [go_sem, start, startE, resVs, resV, resC, allV, retK, Nat.reduceBEq, Nat.reduceAdd, Nat.reduceMul, Nat.reduceLeDiff, Nat.reduceEqDiff, Nat.reduceBNe, Nat.ble_eq, UInt8.reduceToNat])
theorem tree_nodeOf_fe {n_0 o_1} {s : Store} {r : tree_node × Bool}  (h : tree_nodeOf n_0 o_1 = some r) : FE Go.Proofs.Tryz.prog 46 [.int .i64 n_0, .agg [.int .i64 o_1.V.Kind, .int .i64 o_1.V.N, .str o_1.V.S.b, .sl false 4 o_1.V.L.length (flat o_1.V.L), .bool o_1.Stream, .str o_1.Data.b]] s [.agg [.int .i64 r.1.n_, .int .i64 r.1.v_.Kind, .int .i64 r.1.v_.N, .str r.1.v_.S.b, .sl false 4 r.1.v_.L.length (flat r.1.v_.L), .sl false 1 r.1.kids_.length (flat r.1.kids_), .int .i64 r.1.count_], .bool r.2] s := tree_nodeOf_fn   ⟨r, h, rfl, rfl⟩
/-- catchword/tree.ask -/
def tree_ask (f_0 : file_File) (n_1 : Int) : Option (tree_node × Int × Int) :=
  bnd (file_File_Get f_0 n_1) fun r1 =>
  if r1.2.2 != 0 then
    some ((tree_node.mk 0 (api_Value.mk 0 0 (Str.mk []) ([] : List api_Value)) ([] : List Int) 0), r1.2.1, r1.2.2)
  else
    bnd (tree_nodeOf n_1 r1.1) fun r2 =>
    if !r2.2 then
      some ((tree_node.mk 0 (api_Value.mk 0 0 (Str.mk []) ([] : List api_Value)) ([] : List Int) 0), 0, 24)
    else
      some (r2.1, 0, 0)
def ir_tree_ask : IC :=
 (.seq (.reg none [i1 4 (.allocL [.int .i64 0, .int .i64 0, .int .i64 0, .str [], .sl true 4 0 [], .sl true 1 0 [], .int .i64 0]),
 i1 5 (.mov false (.c (.int .i64 0))),
 i1 6 (.mov false (.c (.int .i64 0)))] [0, 1, 4])
 (.seq (.reg none [mv 13 0,
 mv 14 1,
 i1 15 (.call 33 [(.t 13), (.t 14)]),
 i1 12 (.movT (.t 15)),
 i1 16 (.extract (.t 12) 0),
 i1 17 (.extract (.t 12) 1),
 i1 18 (.extract (.t 12) 2),
 i1 7 (.allocL [.int .i64 0, .int .i64 0, .str [], .sl true 4 0 [], .bool false, .str []]),
 i0 (.store 6 (.t 7) (.t 16)),
 mv 8 17,
 mv 9 18] [1, 4, 7, 8, 9])
 (.seq (.seq (.reg none [mv 19 9,
 i1 20 (.bin .neq (.t 19) (.c (.int .i64 0)))] [1, 4, 7, 8, 9, 20])
 (.cond (.t 20) (.seq (.reg none [i1 21 (.build [.int .i64 0, .int .i64 0, .int .i64 0, .str [], .sl true 4 0 [], .sl true 1 0 [], .int .i64 0] []),
 mv 22 8,
 mv 23 9,
 i0 (.store 7 (.t 4) (.t 21)),
 mv 5 22,
 mv 6 23] [4, 5, 6])
 .ret)
 .skip))
 (.seq (.reg none [mv 25 1,
 i1 26 (.load 6 true (.t 7)),
 i1 27 (.call 46 [(.t 25), (.t 26)]),
 i1 24 (.movT (.t 27)),
 i1 28 (.extract (.t 24) 0),
 i1 29 (.extract (.t 24) 1),
 i1 10 (.allocL [.int .i64 0, .int .i64 0, .int .i64 0, .str [], .sl true 4 0 [], .sl true 1 0 [], .int .i64 0]),
 i0 (.store 7 (.t 10) (.t 28)),
 mv 11 29] [4, 10, 11])
 (.seq (.seq (.reg none [mv 30 11,
 i1 31 (.un .not (.t 30))] [4, 10, 31])
 (.cond (.t 31) (.seq (.reg none [i1 32 (.build [.int .i64 0, .int .i64 0, .int .i64 0, .str [], .sl true 4 0 [], .sl true 1 0 [], .int .i64 0] []),
 i0 (.store 7 (.t 4) (.t 32)),
 i1 5 (.mov false (.c (.int .i64 0))),
 i1 6 (.mov false (.c (.int .i64 24)))] [4, 5, 6])
 .ret)
 .skip))
 (.seq (.reg none [i1 33 (.load 7 true (.t 10)),
 i0 (.store 7 (.t 4) (.t 33)),
 i1 5 (.mov false (.c (.int .i64 0))),
 i1 6 (.mov false (.c (.int .i64 0)))] [4, 5, 6])
 .ret))))))
def res_tree_ask : List IRes := [⟨4, false, some (7, true)⟩, ⟨5, true, none⟩, ⟨6, true, none⟩]
theorem is_tree_ask : fnIs Go.Proofs.Tryz.prog 47 34 res_tree_ask ir_tree_ask = true := by kernel_rfl
theorem tree_ask_fn {f_0 n_1} {B0 B0_get_ : Nat} {s : Store} {Q : List AV → Store → Prop} (hB0 : s B0 = some (.cells [.int .i64 f_0.root_, .int .i64 f_0.count_, .fn 34 [] [.ref B0_get_ 0]])) (hB0_get_ : s B0_get_ = some (.cells [.sl false 6 f_0.get_.Objects.length (flat f_0.get_.Objects), .int .i64 f_0.get_.Root])) (nB0B0_get_ : B0 ≠ B0_get_) : ok (tree_ask f_0 n_1) (fun r => Q [.agg [.int .i64 r.1.n_, .int .i64 r.1.v_.Kind, .int .i64 r.1.v_.N, .str r.1.v_.S.b, .sl false 4 r.1.v_.L.length (flat r.1.v_.L), .sl false 1 r.1.kids_.length (flat r.1.kids_), .int .i64 r.1.count_], .int .i64 r.2.1, .int .i64 r.2.2] s) → FN Go.Proofs.Tryz.prog 47 [.ref B0 0, .int .i64 n_1] s Q := by
  have hS : s = ((s.set B0 (.cells [.int .i64 f_0.root_, .int .i64 f_0.count_, .fn 34 [] [.ref B0_get_ 0]])).set B0_get_ (.cells [.sl false 6 f_0.get_.Objects.length (flat f_0.get_.Objects), .int .i64 f_0.get_.Root])) := by simp only [set_eq' hB0, set_eq' hB0_get_]
  rw [hS]
  intro h
  refine FN.of (draw_ok mix) is_tree_ask rfl (Nat.le_of_ble_eq_true rfl) ?_
  revert h
  rw [ir_tree_ask, res_tree_ask, tree_ask]
  repeat' (first
    | with_reducible exact tt_to
    | with_reducible refine and_to ?_ ?_
    | with_reducible refine im_to ?_
    | with_reducible refine call_to (fun _ (h : file_File_Get f_0 n_1 = some _) => file_File_Get_fe (B0 := B0) (B0_get_ := B0_get_) (by simp -implicitDefEqProofs only [go_sem, start, startE, resVs, resV, resC, allV, retK, Nat.reduceBEq, Nat.reduceAdd, Nat.reduceMul, Nat.reduceLeDiff, Nat.reduceEqDiff, Nat.reduceBNe, Nat.ble_eq, UInt8.reduceToNat, set_ne nB0B0_get_, set_ne nB0B0_get_.symm, set_comm nB0B0_get_]) (by simp -implicitDefEqProofs only [go_sem, start, startE, resVs, resV, resC, allV, retK, Nat.reduceBEq, Nat.reduceAdd, Nat.reduceMul, Nat.reduceLeDiff, Nat.reduceEqDiff, Nat.reduceBNe, Nat.ble_eq, UInt8.reduceToNat, set_ne nB0B0_get_, set_ne nB0B0_get_.symm, set_comm nB0B0_get_]) nB0B0_get_ h) (fun r1 => ?_)
    | with_reducible refine call_to_q (fun _ (h : file_File_Get f_0 n_1 = some _) => file_File_Get_fe (B0 := B0) (B0_get_ := B0_get_) (by simp -implicitDefEqProofs only [go_sem, start, startE, resVs, resV, resC, allV, retK, Nat.reduceBEq, Nat.reduceAdd, Nat.reduceMul, Nat.reduceLeDiff, Nat.reduceEqDiff, Nat.reduceBNe, Nat.ble_eq, UInt8.reduceToNat, set_ne nB0B0_get_, set_ne nB0B0_get_.symm, set_comm nB0B0_get_]) (by simp -implicitDefEqProofs only [go_sem, start, startE, resVs, resV, resC, allV, retK, Nat.reduceBEq, Nat.reduceAdd, Nat.reduceMul, Nat.reduceLeDiff, Nat.reduceEqDiff, Nat.reduceBNe, Nat.ble_eq, UInt8.reduceToNat, set_ne nB0B0_get_, set_ne nB0B0_get_.symm, set_comm nB0B0_get_]) nB0B0_get_ h) (fun _ => rfl) (fun r1 => ?_)
    | with_reducible refine call_to (fun _ (h : tree_nodeOf n_1 r1.1 = some _) => tree_nodeOf_fe h) (fun r2 => ?_)
    | with_reducible refine call_to_q (fun _ (h : tree_nodeOf n_1 r1.1 = some _) => tree_nodeOf_fe h) (fun _ => rfl) (fun r2 => ?_)
    | with_reducible refine call_to (fun _ (h : tree_nodeOf n_1 r1.1 = some _) => (by refine FE_cast ?_ (tree_nodeOf_fe h); simp -implicitDefEqProofs only [go_sem, start, startE, resVs, resV, resC, allV, retK, Nat.reduceBEq, Nat.reduceAdd, Nat.reduceMul, Nat.reduceLeDiff, Nat.reduceEqDiff, Nat.reduceBNe, Nat.ble_eq, UInt8.reduceToNat, set_ne nB0B0_get_, set_ne nB0B0_get_.symm, set_comm nB0B0_get_])) (fun r2 => ?_)
    | with_reducible refine call_to_q (fun _ (h : tree_nodeOf n_1 r1.1 = some _) => (by refine FE_cast ?_ (tree_nodeOf_fe h); simp -implicitDefEqProofs only [go_sem, start, startE, resVs, resV, resC, allV, retK, Nat.reduceBEq, Nat.reduceAdd, Nat.reduceMul, Nat.reduceLeDiff, Nat.reduceEqDiff, Nat.reduceBNe, Nat.ble_eq, UInt8.reduceToNat, set_ne nB0B0_get_, set_ne nB0B0_get_.symm, set_comm nB0B0_get_])) (fun _ => rfl) (fun r2 => ?_)
    | simp -implicitDefEqProofs only [go_sem, start, startE, resVs, resV, resC, allV, retK, Nat.reduceBEq, Nat.reduceAdd, Nat.reduceMul, Nat.reduceLeDiff, Nat.reduceEqDiff, Nat.reduceBNe, Nat.ble_eq, UInt8.reduceToNat, set_ne nB0B0_get_, set_ne nB0B0_get_.symm, set_comm nB0B0_get_])
theorem tree_ask_fe {f_0 n_1} {B0 B0_get_ : Nat} {s : Store} {r : tree_node × Int × Int} (hB0 : s B0 = some (.cells [.int .i64 f_0.root_, .int .i64 f_0.count_, .fn 34 [] [.ref B0_get_ 0]])) (hB0_get_ : s B0_get_ = some (.cells [.sl false 6 f_0.get_.Objects.length (flat f_0.get_.Objects), .int .i64 f_0.get_.Root])) (nB0B0_get_ : B0 ≠ B0_get_) (h : tree_ask f_0 n_1 = some r) : FE Go.Proofs.Tryz.prog 47 [.ref B0 0, .int .i64 n_1] s [.agg [.int .i64 r.1.n_, .int .i64 r.1.v_.Kind, .int .i64 r.1.v_.N, .str r.1.v_.S.b, .sl false 4 r.1.v_.L.length (flat r.1.v_.L), .sl false 1 r.1.kids_.length (flat r.1.kids_), .int .i64 r.1.count_], .int .i64 r.2.1, .int .i64 r.2.2] s := tree_ask_fn hB0 hB0_get_ nB0B0_get_ ⟨r, h, rfl, rfl⟩
/-- catchword/tree.top -/
def tree_top (f_0 : file_File) : Option (tree_node × Int × Int) :=
  bnd (file_File_Root f_0) fun r1 =>
  bnd (file_File_Get f_0 r1) fun r2 =>
  if r2.2.2 != 0 then
    some ((tree_node.mk 0 (api_Value.mk 0 0 (Str.mk []) ([] : List api_Value)) ([] : List Int) 0), r2.2.1, r2.2.2)
  else
    bnd (tree_Root r2.1) fun r3 =>
    if !r3.2 then
      some ((tree_node.mk 0 (api_Value.mk 0 0 (Str.mk []) ([] : List api_Value)) ([] : List Int) 0), 0, 23)
    else
      bnd (tree_ask f_0 r3.1) fun r4 =>
      some (r4.1, r4.2.1, r4.2.2)
def ir_tree_top : IC :=
 (.seq (.reg none [i1 2 (.allocL [.int .i64 0, .int .i64 0, .int .i64 0, .str [], .sl true 4 0 [], .sl true 1 0 [], .int .i64 0]),
 i1 3 (.mov false (.c (.int .i64 0))),
 i1 4 (.mov false (.c (.int .i64 0)))] [0, 2])
 (.seq (.reg none [mv 11 0,
 mv 12 0,
 i1 13 (.call 68 [(.t 12)]),
 i1 14 (.call 33 [(.t 11), (.t 13)]),
 i1 10 (.movT (.t 14)),
 i1 15 (.extract (.t 10) 0),
 i1 16 (.extract (.t 10) 1),
 i1 17 (.extract (.t 10) 2),
 i1 5 (.allocL [.int .i64 0, .int .i64 0, .str [], .sl true 4 0 [], .bool false, .str []]),
 i0 (.store 6 (.t 5) (.t 15)),
 mv 6 16,
 mv 7 17] [0, 2, 5, 6, 7])
 (.seq (.seq (.reg none [mv 18 7,
 i1 19 (.bin .neq (.t 18) (.c (.int .i64 0)))] [0, 2, 5, 6, 7, 19])
 (.cond (.t 19) (.seq (.reg none [i1 20 (.build [.int .i64 0, .int .i64 0, .int .i64 0, .str [], .sl true 4 0 [], .sl true 1 0 [], .int .i64 0] []),
 mv 21 6,
 mv 22 7,
 i0 (.store 7 (.t 2) (.t 20)),
 mv 3 21,
 mv 4 22] [2, 3, 4])
 .ret)
 .skip))
 (.seq (.reg none [i1 24 (.load 6 true (.t 5)),
 i1 25 (.call 69 [(.t 24)]),
 i1 23 (.movT (.t 25)),
 i1 26 (.extract (.t 23) 0),
 i1 27 (.extract (.t 23) 1),
 mv 8 26,
 mv 9 27] [0, 2, 8, 9])
 (.seq (.seq (.reg none [mv 28 9,
 i1 29 (.un .not (.t 28))] [0, 2, 8, 29])
 (.cond (.t 29) (.seq (.reg none [i1 30 (.build [.int .i64 0, .int .i64 0, .int .i64 0, .str [], .sl true 4 0 [], .sl true 1 0 [], .int .i64 0] []),
 i0 (.store 7 (.t 2) (.t 30)),
 i1 3 (.mov false (.c (.int .i64 0))),
 i1 4 (.mov false (.c (.int .i64 23)))] [2, 3, 4])
 .ret)
 .skip))
 (.seq (.reg none [mv 31 0,
 mv 32 8,
 i1 33 (.call 47 [(.t 31), (.t 32)]),
 i1 34 (.extract (.t 33) 0),
 i1 35 (.extract (.t 33) 1),
 i1 36 (.extract (.t 33) 2),
 i0 (.store 7 (.t 2) (.t 34)),
 mv 3 35,
 mv 4 36] [2, 3, 4])
 .ret))))))
def res_tree_top : List IRes := [⟨2, false, some (7, true)⟩, ⟨3, true, none⟩, ⟨4, true, none⟩]
theorem is_tree_top : fnIs Go.Proofs.Tryz.prog 42 37 res_tree_top ir_tree_top = true := by kernel_rfl
theorem tree_top_fn {f_0} {B0 B0_get_ : Nat} {s : Store} {Q : List AV → Store → Prop} (hB0 : s B0 = some (.cells [.int .i64 f_0.root_, .int .i64 f_0.count_, .fn 34 [] [.ref B0_get_ 0]])) (hB0_get_ : s B0_get_ = some (.cells [.sl false 6 f_0.get_.Objects.length (flat f_0.get_.Objects), .int .i64 f_0.get_.Root])) (nB0B0_get_ : B0 ≠ B0_get_) : ok (tree_top f_0) (fun r => Q [.agg [.int .i64 r.1.n_, .int .i64 r.1.v_.Kind, .int .i64 r.1.v_.N, .str r.1.v_.S.b, .sl false 4 r.1.v_.L.length (flat r.1.v_.L), .sl false 1 r.1.kids_.length (flat r.1.kids_), .int .i64 r.1.count_], .int .i64 r.2.1, .int .i64 r.2.2] s) → FN Go.Proofs.Tryz.prog 42 [.ref B0 0] s Q := by
  have hS : s = ((s.set B0 (.cells [.int .i64 f_0.root_, .int .i64 f_0.count_, .fn 34 [] [.ref B0_get_ 0]])).set B0_get_ (.cells [.sl false 6 f_0.get_.Objects.length (flat f_0.get_.Objects), .int .i64 f_0.get_.Root])) := by simp only [set_eq' hB0, set_eq' hB0_get_]
  rw [hS]
  intro h
  refine FN.of (draw_ok mix) is_tree_top rfl (Nat.le_of_ble_eq_true rfl) ?_
  revert h
  rw [ir_tree_top, res_tree_top, tree_top]
  repeat' (first
    | with_reducible exact tt_to
    | with_reducible refine and_to ?_ ?_
    | with_reducible refine im_to ?_
    | with_reducible refine call_to (fun _ (h : file_File_Root f_0 = some _) => file_File_Root_fe (B0 := B0) (B0_get_ := B0_get_) (by simp -implicitDefEqProofs only [go_sem, start, startE, resVs, resV, resC, allV, retK, Nat.reduceBEq, Nat.reduceAdd, Nat.reduceMul, Nat.reduceLeDiff, Nat.reduceEqDiff, Nat.reduceBNe, Nat.ble_eq, UInt8.reduceToNat, set_ne nB0B0_get_, set_ne nB0B0_get_.symm, set_comm nB0B0_get_]) (by simp -implicitDefEqProofs only [go_sem, start, startE, resVs, resV, resC, allV, retK, Nat.reduceBEq, Nat.reduceAdd, Nat.reduceMul, Nat.reduceLeDiff, Nat.reduceEqDiff, Nat.reduceBNe, Nat.ble_eq, UInt8.reduceToNat, set_ne nB0B0_get_, set_ne nB0B0_get_.symm, set_comm nB0B0_get_]) nB0B0_get_ h) (fun r1 => ?_)
    | with_reducible refine call_to_q (fun _ (h : file_File_Root f_0 = some _) => file_File_Root_fe (B0 := B0) (B0_get_ := B0_get_) (by simp -implicitDefEqProofs only [go_sem, start, startE, resVs, resV, resC, allV, retK, Nat.reduceBEq, Nat.reduceAdd, Nat.reduceMul, Nat.reduceLeDiff, Nat.reduceEqDiff, Nat.reduceBNe, Nat.ble_eq, UInt8.reduceToNat, set_ne nB0B0_get_, set_ne nB0B0_get_.symm, set_comm nB0B0_get_]) (by simp -implicitDefEqProofs only [go_sem, start, startE, resVs, resV, resC, allV, retK, Nat.reduceBEq, Nat.reduceAdd, Nat.reduceMul, Nat.reduceLeDiff, Nat.reduceEqDiff, Nat.reduceBNe, Nat.ble_eq, UInt8.reduceToNat, set_ne nB0B0_get_, set_ne nB0B0_get_.symm, set_comm nB0B0_get_]) nB0B0_get_ h) (fun _ => rfl) (fun r1 => ?_)
    | with_reducible refine call_to (fun _ (h : file_File_Get f_0 r1 = some _) => file_File_Get_fe (B0 := B0) (B0_get_ := B0_get_) (by simp -implicitDefEqProofs only [go_sem, start, startE, resVs, resV, resC, allV, retK, Nat.reduceBEq, Nat.reduceAdd, Nat.reduceMul, Nat.reduceLeDiff, Nat.reduceEqDiff, Nat.reduceBNe, Nat.ble_eq, UInt8.reduceToNat, set_ne nB0B0_get_, set_ne nB0B0_get_.symm, set_comm nB0B0_get_]) (by simp -implicitDefEqProofs only [go_sem, start, startE, resVs, resV, resC, allV, retK, Nat.reduceBEq, Nat.reduceAdd, Nat.reduceMul, Nat.reduceLeDiff, Nat.reduceEqDiff, Nat.reduceBNe, Nat.ble_eq, UInt8.reduceToNat, set_ne nB0B0_get_, set_ne nB0B0_get_.symm, set_comm nB0B0_get_]) nB0B0_get_ h) (fun r2 => ?_)
    | with_reducible refine call_to_q (fun _ (h : file_File_Get f_0 r1 = some _) => file_File_Get_fe (B0 := B0) (B0_get_ := B0_get_) (by simp -implicitDefEqProofs only [go_sem, start, startE, resVs, resV, resC, allV, retK, Nat.reduceBEq, Nat.reduceAdd, Nat.reduceMul, Nat.reduceLeDiff, Nat.reduceEqDiff, Nat.reduceBNe, Nat.ble_eq, UInt8.reduceToNat, set_ne nB0B0_get_, set_ne nB0B0_get_.symm, set_comm nB0B0_get_]) (by simp -implicitDefEqProofs only [go_sem, start, startE, resVs, resV, resC, allV, retK, Nat.reduceBEq, Nat.reduceAdd, Nat.reduceMul, Nat.reduceLeDiff, Nat.reduceEqDiff, Nat.reduceBNe, Nat.ble_eq, UInt8.reduceToNat, set_ne nB0B0_get_, set_ne nB0B0_get_.symm, set_comm nB0B0_get_]) nB0B0_get_ h) (fun _ => rfl) (fun r2 => ?_)
    | with_reducible refine call_to (fun _ (h : tree_Root r2.1 = some _) => tree_Root_fe h) (fun r3 => ?_)
    | with_reducible refine call_to_q (fun _ (h : tree_Root r2.1 = some _) => tree_Root_fe h) (fun _ => rfl) (fun r3 => ?_)
    | with_reducible refine call_to (fun _ (h : tree_Root r2.1 = some _) => (by refine FE_cast ?_ (tree_Root_fe h); simp -implicitDefEqProofs only [go_sem, start, startE, resVs, resV, resC, allV, retK, Nat.reduceBEq, Nat.reduceAdd, Nat.reduceMul, Nat.reduceLeDiff, Nat.reduceEqDiff, Nat.reduceBNe, Nat.ble_eq, UInt8.reduceToNat, set_ne nB0B0_get_, set_ne nB0B0_get_.symm, set_comm nB0B0_get_])) (fun r3 => ?_)
    | with_reducible refine call_to_q (fun _ (h : tree_Root r2.1 = some _) => (by refine FE_cast ?_ (tree_Root_fe h); simp -implicitDefEqProofs only [go_sem, start, startE, resVs, resV, resC, allV, retK, Nat.reduceBEq, Nat.reduceAdd, Nat.reduceMul, Nat.reduceLeDiff, Nat.reduceEqDiff, Nat.reduceBNe, Nat.ble_eq, UInt8.reduceToNat, set_ne nB0B0_get_, set_ne nB0B0_get_.symm, set_comm nB0B0_get_])) (fun _ => rfl) (fun r3 => ?_)
    | with_reducible refine call_to (fun _ (h : tree_ask f_0 r3.1 = some _) => tree_ask_fe (B0 := B0) (B0_get_ := B0_get_) (by simp -implicitDefEqProofs only [go_sem, start, startE, resVs, resV, resC, allV, retK, Nat.reduceBEq, Nat.reduceAdd, Nat.reduceMul, Nat.reduceLeDiff, Nat.reduceEqDiff, Nat.reduceBNe, Nat.ble_eq, UInt8.reduceToNat, set_ne nB0B0_get_, set_ne nB0B0_get_.symm, set_comm nB0B0_get_]) (by simp -implicitDefEqProofs only [go_sem, start, startE, resVs, resV, resC, allV, retK, Nat.reduceBEq, Nat.reduceAdd, Nat.reduceMul, Nat.reduceLeDiff, Nat.reduceEqDiff, Nat.reduceBNe, Nat.ble_eq, UInt8.reduceToNat, set_ne nB0B0_get_, set_ne nB0B0_get_.symm, set_comm nB0B0_get_]) nB0B0_get_ h) (fun r4 => ?_)
    | with_reducible refine call_to_q (fun _ (h : tree_ask f_0 r3.1 = some _) => tree_ask_fe (B0 := B0) (B0_get_ := B0_get_) (by simp -implicitDefEqProofs only [go_sem, start, startE, resVs, resV, resC, allV, retK, Nat.reduceBEq, Nat.reduceAdd, Nat.reduceMul, Nat.reduceLeDiff, Nat.reduceEqDiff, Nat.reduceBNe, Nat.ble_eq, UInt8.reduceToNat, set_ne nB0B0_get_, set_ne nB0B0_get_.symm, set_comm nB0B0_get_]) (by simp -implicitDefEqProofs only [go_sem, start, startE, resVs, resV, resC, allV, retK, Nat.reduceBEq, Nat.reduceAdd, Nat.reduceMul, Nat.reduceLeDiff, Nat.reduceEqDiff, Nat.reduceBNe, Nat.ble_eq, UInt8.reduceToNat, set_ne nB0B0_get_, set_ne nB0B0_get_.symm, set_comm nB0B0_get_]) nB0B0_get_ h) (fun _ => rfl) (fun r4 => ?_)
    | simp -implicitDefEqProofs only [go_sem, start, startE, resVs, resV, resC, allV, retK, Nat.reduceBEq, Nat.reduceAdd, Nat.reduceMul, Nat.reduceLeDiff, Nat.reduceEqDiff, Nat.reduceBNe, Nat.ble_eq, UInt8.reduceToNat, set_ne nB0B0_get_, set_ne nB0B0_get_.symm, set_comm nB0B0_get_])
theorem tree_top_fe {f_0} {B0 B0_get_ : Nat} {s : Store} {r : tree_node × Int × Int} (hB0 : s B0 = some (.cells [.int .i64 f_0.root_, .int .i64 f_0.count_, .fn 34 [] [.ref B0_get_ 0]])) (hB0_get_ : s B0_get_ = some (.cells [.sl false 6 f_0.get_.Objects.length (flat f_0.get_.Objects), .int .i64 f_0.get_.Root])) (nB0B0_get_ : B0 ≠ B0_get_) (h : tree_top f_0 = some r) : FE Go.Proofs.Tryz.prog 42 [.ref B0 0] s [.agg [.int .i64 r.1.n_, .int .i64 r.1.v_.Kind, .int .i64 r.1.v_.N, .str r.1.v_.S.b, .sl false 4 r.1.v_.L.length (flat r.1.v_.L), .sl false 1 r.1.kids_.length (flat r.1.kids_), .int .i64 r.1.count_], .int .i64 r.2.1, .int .i64 r.2.2] s := tree_top_fn hB0 hB0_get_ nB0B0_get_ ⟨r, h, rfl, rfl⟩
/-- catchword/tree.inherited -/
def tree_inherited  : Option ((List Str)) :=
  some [(Str.mk [82, 101, 115, 111, 117, 114, 99, 101, 115]), (Str.mk [77, 101, 100, 105, 97, 66, 111, 120]), (Str.mk [67, 114, 111, 112, 66, 111, 120]), (Str.mk [82, 111, 116, 97, 116, 101])]
def ir_tree_inherited : IC :=
 (.seq (.reg none [i1 0 (.mov true (.c (.sl true 1 0 [])))] [])
 (.seq (.reg none [i1 1 (.buildSl 1 4 [.str [], .str [], .str [], .str []] [(0, 1, (.c (.str [82, 101, 115, 111, 117, 114, 99, 101, 115]))), (1, 1, (.c (.str [77, 101, 100, 105, 97, 66, 111, 120]))), (2, 1, (.c (.str [67, 114, 111, 112, 66, 111, 120]))), (3, 1, (.c (.str [82, 111, 116, 97, 116, 101])))]),
 mt 0 1] [0])
 .ret))
def res_tree_inherited : List IRes := [⟨0, true, none⟩]
theorem is_tree_inherited : fnIs Go.Proofs.Tryz.prog 70 2 res_tree_inherited ir_tree_inherited = true := by kernel_rfl
theorem tree_inherited_fn  {s : Store} {Q : List AV → Store → Prop}  : ok (tree_inherited ) (fun r => Q [.sl true 1 r.length (flat r)] s) → FN Go.Proofs.Tryz.prog 70 [] s Q := by
  intro h
  refine FN.of (draw_ok mix) is_tree_inherited rfl (Nat.le_of_ble_eq_true rfl) ?_
  revert h
  rw [ir_tree_inherited, res_tree_inherited, tree_inherited]
  repeat' (first
    | with_reducible exact tt_to
    | with_reducible refine and_to ?_ ?_
    | with_reducible refine im_to ?_
    | simp -implicitDefEqProofs only [go_sem, start, startE, resVs, resV, resC, allV, retK, Nat.reduceBEq, Nat.reduceAdd, Nat.reduceMul, Nat.reduceLeDiff, Nat.reduceEqDiff, Nat.reduceBNe, Nat.ble_eq, UInt8.reduceToNat])
theorem tree_inherited_fe  {s : Store} {r : (List Str)}  (h : tree_inherited  = some r) : FE Go.Proofs.Tryz.prog 70 [] s [.sl true 1 r.length (flat r)] s := tree_inherited_fn   ⟨r, h, rfl, rfl⟩
/-- catchword/tree.give -/
def tree_give (given_0 : api_Value) (v_1 : api_Value) : Option (api_Value) :=
  jn (
    bnd (tree_inherited) fun r3 =>
    iter (fun ((given4, t5) : api_Value × Int) =>
      if decide (t5 < (r3.length : Int)) then
        jn (
          need (0 ≤ t5 ∧ t5 < r3.length) <|
          bnd (value_Get v_1 (ix r3 t5)) fun r14 =>
          if r14.2 then
            bnd (value_Put given4 (ix r3 t5) r14.1) fun r15 =>
            some r15
          else
            some given4) fun (given8 : api_Value) =>
        some (.inl (given8, w64 (t5 + 1)))
      else
        some (.inr given4)) (given_0, 0)) fun (given1 : api_Value) =>
  some given1
def ir_tree_give : IC :=
 (.seq (.reg none [i1 2 (.boxL 4 (.t 0)),
 i1 3 (.boxL 4 (.t 1)),
 i1 4 (.allocL [.int .i64 0, .int .i64 0, .str [], .sl true 4 0 []])] [2, 3, 4])
 (.join [(2, false), (4, false)] (.seq (.reg none [i1 9 (.call 70 []),
 i1 10 (.len 0 (.t 9)),
 i1 11 (.mov false (.c (.int .i64 0)))] [2, 3, 4, 9, 10, 11])
 (.block 0 (.loop [(2, false), (3, false), (4, false), (9, false), (10, false), (11, false)] (.seq (.reg none [i1 12 (.bin .lss (.t 11) (.t 10))] [2, 3, 4, 9, 10, 11, 12])
 (.seq (.cond (.t 12) .skip
 (.exit 0))
 (.join [(2, false), (3, false), (4, false), (9, false), (10, false), (11, false)] (.block 1 (.seq (.reg none [i1 13 (.indexAddr [.str []] (.t 9) (.t 11)),
 i1 14 (.load 1 false (.t 13)),
 mv 6 14] [2, 3, 4, 6, 9, 10, 11])
 (.seq (.reg none [i1 16 (.load 4 true (.t 3)),
 mv 17 6,
 i1 18 (.call 41 [(.t 16), (.t 17)]),
 i1 15 (.movT (.t 18)),
 i1 19 (.extract (.t 15) 0),
 i1 20 (.extract (.t 15) 1),
 i1 7 (.allocL [.int .i64 0, .int .i64 0, .str [], .sl true 4 0 []]),
 i0 (.store 4 (.t 7) (.t 19)),
 mv 8 20] [2, 3, 4, 6, 7, 8, 9, 10, 11])
 (.seq (.reg none [mv 21 8] [2, 3, 4, 6, 7, 9, 10, 11, 21])
 (.cond (.t 21) (.reg none [i1 22 (.load 4 true (.t 2)),
 mv 23 6,
 i1 24 (.load 4 true (.t 7)),
 i1 25 (.call 53 [(.t 22), (.t 23), (.t 24)]),
 i0 (.store 4 (.t 2) (.t 25))] [2, 3, 4, 9, 10, 11])
 .skip)))))
 (.reg none [i1 26 (.bin .add (.t 11) (.c (.int .i64 1))),
 mv 11 26] [2, 3, 4, 9, 10, 11])))))))
 (.seq (.reg none [i1 27 (.load 4 true (.t 2)),
 i0 (.store 4 (.t 4) (.t 27))] [4])
 .ret)))
def res_tree_give : List IRes := [⟨4, false, some (4, true)⟩]
theorem is_tree_give : fnIs Go.Proofs.Tryz.prog 43 28 res_tree_give ir_tree_give = true := by kernel_rfl
theorem tree_give_fn {given_0 v_1} {s : Store} {Q : List AV → Store → Prop}  : ok (tree_give given_0 v_1) (fun r => Q [.agg [.int .i64 r.Kind, .int .i64 r.N, .str r.S.b, .sl false 4 r.L.length (flat r.L)]] s) → FN Go.Proofs.Tryz.prog 43 [.agg [.int .i64 given_0.Kind, .int .i64 given_0.N, .str given_0.S.b, .sl false 4 given_0.L.length (flat given_0.L)], .agg [.int .i64 v_1.Kind, .int .i64 v_1.N, .str v_1.S.b, .sl false 4 v_1.L.length (flat v_1.L)]] s Q := by
  intro h
  refine FN.of (draw_ok mix) is_tree_give rfl (Nat.le_of_ble_eq_true rfl) ?_
  revert h
  rw [ir_tree_give, res_tree_give, tree_give]
  repeat' (first
    | with_reducible exact tt_to
    | with_reducible refine and_to ?_ ?_
    | with_reducible refine im_to ?_
    | with_reducible refine call_to (fun _ (h : tree_inherited = some _) => tree_inherited_fe h) (fun r3 => ?_)
    | with_reducible refine call_to_q (fun _ (h : tree_inherited = some _) => tree_inherited_fe h) (fun _ => rfl) (fun r3 => ?_)
    | with_reducible refine call_to (fun _ (h : tree_inherited = some _) => (by refine FE_cast ?_ (tree_inherited_fe h); simp -implicitDefEqProofs only [go_sem, start, startE, resVs, resV, resC, allV, retK, Nat.reduceBEq, Nat.reduceAdd, Nat.reduceMul, Nat.reduceLeDiff, Nat.reduceEqDiff, Nat.reduceBNe, Nat.ble_eq, UInt8.reduceToNat])) (fun r3 => ?_)
    | with_reducible refine call_to_q (fun _ (h : tree_inherited = some _) => (by refine FE_cast ?_ (tree_inherited_fe h); simp -implicitDefEqProofs only [go_sem, start, startE, resVs, resV, resC, allV, retK, Nat.reduceBEq, Nat.reduceAdd, Nat.reduceMul, Nat.reduceLeDiff, Nat.reduceEqDiff, Nat.reduceBNe, Nat.ble_eq, UInt8.reduceToNat])) (fun _ => rfl) (fun r3 => ?_)
    | with_reducible refine call_to (fun _ (h : value_Get v_1 (ix r3 t5) = some _) => value_Get_fe h) (fun r14 => ?_)
    | with_reducible refine call_to_q (fun _ (h : value_Get v_1 (ix r3 t5) = some _) => value_Get_fe h) (fun _ => rfl) (fun r14 => ?_)
    | with_reducible refine call_to (fun _ (h : value_Get v_1 (ix r3 t5) = some _) => (by refine FE_cast ?_ (value_Get_fe h); simp -implicitDefEqProofs only [go_sem, start, startE, resVs, resV, resC, allV, retK, Nat.reduceBEq, Nat.reduceAdd, Nat.reduceMul, Nat.reduceLeDiff, Nat.reduceEqDiff, Nat.reduceBNe, Nat.ble_eq, UInt8.reduceToNat])) (fun r14 => ?_)
    | with_reducible refine call_to_q (fun _ (h : value_Get v_1 (ix r3 t5) = some _) => (by refine FE_cast ?_ (value_Get_fe h); simp -implicitDefEqProofs only [go_sem, start, startE, resVs, resV, resC, allV, retK, Nat.reduceBEq, Nat.reduceAdd, Nat.reduceMul, Nat.reduceLeDiff, Nat.reduceEqDiff, Nat.reduceBNe, Nat.ble_eq, UInt8.reduceToNat])) (fun _ => rfl) (fun r14 => ?_)
    | with_reducible refine call_to (fun _ (h : value_Put given4 (ix r3 t5) r14.1 = some _) => value_Put_fe h) (fun r15 => ?_)
    | with_reducible refine call_to_q (fun _ (h : value_Put given4 (ix r3 t5) r14.1 = some _) => value_Put_fe h) (fun _ => rfl) (fun r15 => ?_)
    | with_reducible refine call_to (fun _ (h : value_Put given4 (ix r3 t5) r14.1 = some _) => (by refine FE_cast ?_ (value_Put_fe h); simp -implicitDefEqProofs only [go_sem, start, startE, resVs, resV, resC, allV, retK, Nat.reduceBEq, Nat.reduceAdd, Nat.reduceMul, Nat.reduceLeDiff, Nat.reduceEqDiff, Nat.reduceBNe, Nat.ble_eq, UInt8.reduceToNat])) (fun r15 => ?_)
    | with_reducible refine call_to_q (fun _ (h : value_Put given4 (ix r3 t5) r14.1 = some _) => (by refine FE_cast ?_ (value_Put_fe h); simp -implicitDefEqProofs only [go_sem, start, startE, resVs, resV, resC, allV, retK, Nat.reduceBEq, Nat.reduceAdd, Nat.reduceMul, Nat.reduceLeDiff, Nat.reduceEqDiff, Nat.reduceBNe, Nat.ble_eq, UInt8.reduceToNat])) (fun _ => rfl) (fun r15 => ?_)
    | ((with_reducible refine join_to (fun (given8 : api_Value) => ⟨[(2, .loc [.int .i64 given8.Kind, .int .i64 given8.N, .str given8.S.b, .sl false 4 given8.L.length (flat given8.L)]), (3, .loc [.int .i64 v_1.Kind, .int .i64 v_1.N, .str v_1.S.b, .sl false 4 v_1.L.length (flat v_1.L)]), (4, .loc [.int .i64 0, .int .i64 0, .str (Str.mk []).b, .sl true 4 ([] : List api_Value).length (flat ([] : List api_Value))]), (9, .sl true 1 r3.length (flat r3)), (10, .int .i64 (r3.length : Int)), (11, .int .i64 t5)], [], s⟩) (fun J => ?_) ?_); rotate_left; rintro given8)
    | ((with_reducible refine iter_to (fun ((given4, t5) : api_Value × Int) => ⟨[(2, .loc [.int .i64 given4.Kind, .int .i64 given4.N, .str given4.S.b, .sl false 4 given4.L.length (flat given4.L)]), (3, .loc [.int .i64 v_1.Kind, .int .i64 v_1.N, .str v_1.S.b, .sl false 4 v_1.L.length (flat v_1.L)]), (4, .loc [.int .i64 0, .int .i64 0, .str (Str.mk []).b, .sl true 4 ([] : List api_Value).length (flat ([] : List api_Value))]), (9, .sl true 1 r3.length (flat r3)), (10, .int .i64 (r3.length : Int)), (11, .int .i64 t5)], [], s⟩) ?_ ?_); (first | exact rfl | simp -implicitDefEqProofs only [go_sem, start, startE, resVs, resV, resC, allV, retK, Nat.reduceBEq, Nat.reduceAdd, Nat.reduceMul, Nat.reduceLeDiff, Nat.reduceEqDiff, Nat.reduceBNe, Nat.ble_eq, UInt8.reduceToNat]); rintro J ⟨given4, t5⟩)
    | ((with_reducible refine join_to (fun (given1 : api_Value) => ⟨[(2, .loc [.int .i64 given1.Kind, .int .i64 given1.N, .str given1.S.b, .sl false 4 given1.L.length (flat given1.L)]), (4, .loc [.int .i64 0, .int .i64 0, .str (Str.mk []).b, .sl true 4 ([] : List api_Value).length (flat ([] : List api_Value))])], [], s⟩) (fun J => ?_) ?_); rotate_left; rintro given1)
    | simp -implicitDefEqProofs only [go_sem, start, startE, resVs, resV, resC, allV, retK, Nat.reduceBEq, Nat.reduceAdd, Nat.reduceMul, Nat.reduceLeDiff, Nat.reduceEqDiff, Nat.reduceBNe, Nat.ble_eq, UInt8.reduceToNat])
theorem tree_give_fe {given_0 v_1} {s : Store} {r : api_Value}  (h : tree_give given_0 v_1 = some r) : FE Go.Proofs.Tryz.prog 43 [.agg [.int .i64 given_0.Kind, .int .i64 given_0.N, .str given_0.S.b, .sl false 4 given_0.L.length (flat given_0.L)], .agg [.int .i64 v_1.Kind, .int .i64 v_1.N, .str v_1.S.b, .sl false 4 v_1.L.length (flat v_1.L)]] s [.agg [.int .i64 r.Kind, .int .i64 r.N, .str r.S.b, .sl false 4 r.L.length (flat r.L)]] s := tree_give_fn   ⟨r, h, rfl, rfl⟩
/-- catchword/tree.Page -/
def tree_Page (o_0 : api_Object) : Option (Bool) :=
  bnd (tree_typed o_0 (Str.mk [80, 97, 103, 101])) fun r1 =>
  some r1
def ir_tree_Page : IC :=
 (.seq (.reg none [i1 1 (.boxL 6 (.t 0)),
 i1 2 (.mov false (.c (.bool false)))] [1])
 (.seq (.reg none [i1 3 (.load 6 true (.t 1)),
 i1 4 (.call 71 [(.t 3), (.c (.str [80, 97, 103, 101]))]),
 mv 2 4] [2])
 .ret))
def res_tree_Page : List IRes := [⟨2, true, none⟩]
theorem is_tree_Page : fnIs Go.Proofs.Tryz.prog 44 5 res_tree_Page ir_tree_Page = true := by kernel_rfl
theorem tree_Page_fn {o_0} {s : Store} {Q : List AV → Store → Prop}  : ok (tree_Page o_0) (fun r => Q [.bool r] s) → FN Go.Proofs.Tryz.prog 44 [.agg [.int .i64 o_0.V.Kind, .int .i64 o_0.V.N, .str o_0.V.S.b, .sl false 4 o_0.V.L.length (flat o_0.V.L), .bool o_0.Stream, .str o_0.Data.b]] s Q := by
  intro h
  refine FN.of (draw_ok mix) is_tree_Page rfl (Nat.le_of_ble_eq_true rfl) ?_
  revert h
  rw [ir_tree_Page, res_tree_Page, tree_Page]
  repeat' (first
    | with_reducible exact tt_to
    | with_reducible refine and_to ?_ ?_
    | with_reducible refine im_to ?_
    | with_reducible refine call_to (fun _ (h : tree_typed o_0 (Str.mk [80, 97, 103, 101]) = some _) => tree_typed_fe h) (fun r1 => ?_)
    | with_reducible refine call_to_q (fun _ (h : tree_typed o_0 (Str.mk [80, 97, 103, 101]) = some _) => tree_typed_fe h) (fun _ => rfl) (fun r1 => ?_)
    | with_reducible refine call_to (fun _ (h : tree_typed o_0 (Str.mk [80, 97, 103, 101]) = some _) => (by refine FE_cast ?_ (tree_typed_fe h); simp -implicitDefEqProofs only [go_sem, start, startE, resVs, resV, resC, allV, retK, Nat.reduceBEq, Nat.reduceAdd, Nat.reduceMul, Nat.reduceLeDiff, Nat.reduceEqDiff, Nat.reduceBNe, Nat.ble_eq, UInt8.reduceToNat])) (fun r1 => ?_)
    | with_reducible refine call_to_q (fun _ (h : tree_typed o_0 (Str.mk [80, 97, 103, 101]) = some _) => (by refine FE_cast ?_ (tree_typed_fe h); simp -implicitDefEqProofs only [go_sem, start, startE, resVs, resV, resC, allV, retK, Nat.reduceBEq, Nat.reduceAdd, Nat.reduceMul, Nat.reduceLeDiff, Nat.reduceEqDiff, Nat.reduceBNe, Nat.ble_eq, UInt8.reduceToNat])) (fun _ => rfl) (fun r1 => ?_)
    | simp -implicitDefEqProofs only [go_sem, start, startE, resVs, resV, resC, allV, retK, Nat.reduceBEq, Nat.reduceAdd, Nat.reduceMul, Nat.reduceLeDiff, Nat.reduceEqDiff, Nat.reduceBNe, Nat.ble_eq, UInt8.reduceToNat])
theorem tree_Page_fe {o_0} {s : Store} {r : Bool}  (h : tree_Page o_0 = some r) : FE Go.Proofs.Tryz.prog 44 [.agg [.int .i64 o_0.V.Kind, .int .i64 o_0.V.N, .str o_0.V.S.b, .sl false 4 o_0.V.L.length (flat o_0.V.L), .bool o_0.Stream, .str o_0.Data.b]] s [.bool r] s := tree_Page_fn   ⟨r, h, rfl, rfl⟩
/-- catchword/tree.leaf -/
def tree_leaf (n_0 : Int) (page_1 : api_Value) (path_2 : (List Int)) (given_3 : api_Value) : Option (tree_Leaf) :=
  jn (
    bnd (tree_inherited) fun r5 =>
    iter (fun ((given6, t7) : api_Value × Int) =>
      if decide (t7 < (r5.length : Int)) then
        jn (
          need (0 ≤ t7 ∧ t7 < r5.length) <|
          bnd (value_Get page_1 (ix r5 t7)) fun r20 =>
          if r20.2 then
            bnd (value_Drop given6 (ix r5 t7)) fun r21 =>
            some r21
          else
            some given6) fun (given15 : api_Value) =>
        some (.inl (given15, w64 (t7 + 1)))
      else
        some (.inr given6)) (given_3, 0)) fun (given3 : api_Value) =>
  some (tree_Leaf.mk n_0 path_2 given3)
def ir_tree_leaf : IC :=
 (.seq (.reg none [i1 5 (.boxL 4 (.t 1)),
 i1 7 (.boxL 4 (.t 3)),
 i1 8 (.allocL [.int .i64 0, .sl true 1 0 [], .int .i64 0, .int .i64 0, .str [], .sl true 4 0 []])] [0, 2, 5, 7, 8])
 (.join [(0, false), (2, true), (7, false), (8, false)] (.seq (.reg none [i1 13 (.call 70 []),
 i1 14 (.len 0 (.t 13)),
 i1 15 (.mov false (.c (.int .i64 0)))] [0, 2, 5, 7, 8, 13, 14, 15])
 (.block 0 (.loop [(0, false), (2, true), (5, false), (7, false), (8, false), (13, false), (14, false), (15, false)] (.seq (.reg none [i1 16 (.bin .lss (.t 15) (.t 14))] [0, 2, 5, 7, 8, 13, 14, 15, 16])
 (.seq (.cond (.t 16) .skip
 (.exit 0))
 (.join [(0, false), (2, true), (5, false), (7, false), (8, false), (13, false), (14, false), (15, false)] (.block 1 (.seq (.reg none [i1 17 (.indexAddr [.str []] (.t 13) (.t 15)),
 i1 18 (.load 1 false (.t 17)),
 mv 10 18] [0, 2, 5, 7, 8, 10, 13, 14, 15])
 (.seq (.reg none [i1 20 (.load 4 true (.t 5)),
 mv 21 10,
 i1 22 (.call 41 [(.t 20), (.t 21)]),
 i1 19 (.movT (.t 22)),
 i1 23 (.extract (.t 19) 0),
 i1 24 (.extract (.t 19) 1),
 i1 11 (.allocL [.int .i64 0, .int .i64 0, .str [], .sl true 4 0 []]),
 i0 (.store 4 (.t 11) (.t 23)),
 mv 12 24] [0, 2, 5, 7, 8, 10, 12, 13, 14, 15])
 (.seq (.reg none [mv 25 12] [0, 2, 5, 7, 8, 10, 13, 14, 15, 25])
 (.cond (.t 25) (.reg none [i1 26 (.load 4 true (.t 7)),
 mv 27 10,
 i1 28 (.call 57 [(.t 26), (.t 27)]),
 i0 (.store 4 (.t 7) (.t 28))] [0, 2, 5, 7, 8, 13, 14, 15])
 .skip)))))
 (.reg none [i1 29 (.bin .add (.t 15) (.c (.int .i64 1))),
 mv 15 29] [0, 2, 5, 7, 8, 13, 14, 15])))))))
 (.seq (.reg none [mv 30 0,
 mt 31 2,
 i1 32 (.load 4 true (.t 7)),
 i1 33 (.build [.int .i64 0, .sl true 1 0 [], .int .i64 0, .int .i64 0, .str [], .sl true 4 0 []] [(0, 1, (.t 30)), (1, 1, (.t 31)), (2, 4, (.t 32))]),
 i0 (.store 6 (.t 8) (.t 33))] [8])
 .ret)))
def res_tree_leaf : List IRes := [⟨8, false, some (6, true)⟩]
theorem is_tree_leaf : fnIs Go.Proofs.Tryz.prog 45 34 res_tree_leaf ir_tree_leaf = true := by kernel_rfl
theorem tree_leaf_fn {n_0 page_1 path_2 given_3} {s : Store} {Q : List AV → Store → Prop}  : ok (tree_leaf n_0 page_1 path_2 given_3) (fun r => Q [.agg [.int .i64 r.Page, .sl false 1 r.Path.length (flat r.Path), .int .i64 r.Given.Kind, .int .i64 r.Given.N, .str r.Given.S.b, .sl false 4 r.Given.L.length (flat r.Given.L)]] s) → FN Go.Proofs.Tryz.prog 45 [.int .i64 n_0, .agg [.int .i64 page_1.Kind, .int .i64 page_1.N, .str page_1.S.b, .sl false 4 page_1.L.length (flat page_1.L)], .sl false 1 path_2.length (flat path_2), .agg [.int .i64 given_3.Kind, .int .i64 given_3.N, .str given_3.S.b, .sl false 4 given_3.L.length (flat given_3.L)]] s Q := by
  intro h
  refine FN.of (draw_ok mix) is_tree_leaf rfl (Nat.le_of_ble_eq_true rfl) ?_
  revert h
  rw [ir_tree_leaf, res_tree_leaf, tree_leaf]
  repeat' (first
    | with_reducible exact tt_to
    | with_reducible refine and_to ?_ ?_
    | with_reducible refine im_to ?_
    | with_reducible refine call_to (fun _ (h : tree_inherited = some _) => tree_inherited_fe h) (fun r5 => ?_)
    | with_reducible refine call_to_q (fun _ (h : tree_inherited = some _) => tree_inherited_fe h) (fun _ => rfl) (fun r5 => ?_)
    | with_reducible refine call_to (fun _ (h : tree_inherited = some _) => (by refine FE_cast ?_ (tree_inherited_fe h); simp -implicitDefEqProofs only [go_sem, start, startE, resVs, resV, resC, allV, retK, Nat.reduceBEq, Nat.reduceAdd, Nat.reduceMul, Nat.reduceLeDiff, Nat.reduceEqDiff, Nat.reduceBNe, Nat.ble_eq, UInt8.reduceToNat])) (fun r5 => ?_)
    | with_reducible refine call_to_q (fun _ (h : tree_inherited = some _) => (by refine FE_cast ?_ (tree_inherited_fe h); simp -implicitDefEqProofs only [go_sem, start, startE, resVs, resV, resC, allV, retK, Nat.reduceBEq, Nat.reduceAdd, Nat.reduceMul, Nat.reduceLeDiff, Nat.reduceEqDiff, Nat.reduceBNe, Nat.ble_eq, UInt8.reduceToNat])) (fun _ => rfl) (fun r5 => ?_)
    | with_reducible refine call_to (fun _ (h : value_Get page_1 (ix r5 t7) = some _) => value_Get_fe h) (fun r20 => ?_)
    | with_reducible refine call_to_q (fun _ (h : value_Get page_1 (ix r5 t7) = some _) => value_Get_fe h) (fun _ => rfl) (fun r20 => ?_)
    | with_reducible refine call_to (fun _ (h : value_Get page_1 (ix r5 t7) = some _) => (by refine FE_cast ?_ (value_Get_fe h); simp -implicitDefEqProofs only [go_sem, start, startE, resVs, resV, resC, allV, retK, Nat.reduceBEq, Nat.reduceAdd, Nat.reduceMul, Nat.reduceLeDiff, Nat.reduceEqDiff, Nat.reduceBNe, Nat.ble_eq, UInt8.reduceToNat])) (fun r20 => ?_)
    | with_reducible refine call_to_q (fun _ (h : value_Get page_1 (ix r5 t7) = some _) => (by refine FE_cast ?_ (value_Get_fe h); simp -implicitDefEqProofs only [go_sem, start, startE, resVs, resV, resC, allV, retK, Nat.reduceBEq, Nat.reduceAdd, Nat.reduceMul, Nat.reduceLeDiff, Nat.reduceEqDiff, Nat.reduceBNe, Nat.ble_eq, UInt8.reduceToNat])) (fun _ => rfl) (fun r20 => ?_)
    | with_reducible refine call_to (fun _ (h : value_Drop given6 (ix r5 t7) = some _) => value_Drop_fe h) (fun r21 => ?_)
    | with_reducible refine call_to_q (fun _ (h : value_Drop given6 (ix r5 t7) = some _) => value_Drop_fe h) (fun _ => rfl) (fun r21 => ?_)
    | with_reducible refine call_to (fun _ (h : value_Drop given6 (ix r5 t7) = some _) => (by refine FE_cast ?_ (value_Drop_fe h); simp -implicitDefEqProofs only [go_sem, start, startE, resVs, resV, resC, allV, retK, Nat.reduceBEq, Nat.reduceAdd, Nat.reduceMul, Nat.reduceLeDiff, Nat.reduceEqDiff, Nat.reduceBNe, Nat.ble_eq, UInt8.reduceToNat])) (fun r21 => ?_)
    | with_reducible refine call_to_q (fun _ (h : value_Drop given6 (ix r5 t7) = some _) => (by refine FE_cast ?_ (value_Drop_fe h); simp -implicitDefEqProofs only [go_sem, start, startE, resVs, resV, resC, allV, retK, Nat.reduceBEq, Nat.reduceAdd, Nat.reduceMul, Nat.reduceLeDiff, Nat.reduceEqDiff, Nat.reduceBNe, Nat.ble_eq, UInt8.reduceToNat])) (fun _ => rfl) (fun r21 => ?_)
    | ((with_reducible refine join_to (fun (given15 : api_Value) => ⟨[(0, .int .i64 n_0), (2, .sl false 1 path_2.length (flat path_2)), (5, .loc [.int .i64 page_1.Kind, .int .i64 page_1.N, .str page_1.S.b, .sl false 4 page_1.L.length (flat page_1.L)]), (7, .loc [.int .i64 given15.Kind, .int .i64 given15.N, .str given15.S.b, .sl false 4 given15.L.length (flat given15.L)]), (8, .loc [.int .i64 0, .sl true 1 ([] : List Int).length (flat ([] : List Int)), .int .i64 0, .int .i64 0, .str (Str.mk []).b, .sl true 4 ([] : List api_Value).length (flat ([] : List api_Value))]), (13, .sl true 1 r5.length (flat r5)), (14, .int .i64 (r5.length : Int)), (15, .int .i64 t7)], [], s⟩) (fun J => ?_) ?_); rotate_left; rintro given15)
    | ((with_reducible refine iter_to (fun ((given6, t7) : api_Value × Int) => ⟨[(0, .int .i64 n_0), (2, .sl false 1 path_2.length (flat path_2)), (5, .loc [.int .i64 page_1.Kind, .int .i64 page_1.N, .str page_1.S.b, .sl false 4 page_1.L.length (flat page_1.L)]), (7, .loc [.int .i64 given6.Kind, .int .i64 given6.N, .str given6.S.b, .sl false 4 given6.L.length (flat given6.L)]), (8, .loc [.int .i64 0, .sl true 1 ([] : List Int).length (flat ([] : List Int)), .int .i64 0, .int .i64 0, .str (Str.mk []).b, .sl true 4 ([] : List api_Value).length (flat ([] : List api_Value))]), (13, .sl true 1 r5.length (flat r5)), (14, .int .i64 (r5.length : Int)), (15, .int .i64 t7)], [], s⟩) ?_ ?_); (first | exact rfl | simp -implicitDefEqProofs only [go_sem, start, startE, resVs, resV, resC, allV, retK, Nat.reduceBEq, Nat.reduceAdd, Nat.reduceMul, Nat.reduceLeDiff, Nat.reduceEqDiff, Nat.reduceBNe, Nat.ble_eq, UInt8.reduceToNat]); rintro J ⟨given6, t7⟩)
    | ((with_reducible refine join_to (fun (given3 : api_Value) => ⟨[(0, .int .i64 n_0), (2, .sl false 1 path_2.length (flat path_2)), (7, .loc [.int .i64 given3.Kind, .int .i64 given3.N, .str given3.S.b, .sl false 4 given3.L.length (flat given3.L)]), (8, .loc [.int .i64 0, .sl true 1 ([] : List Int).length (flat ([] : List Int)), .int .i64 0, .int .i64 0, .str (Str.mk []).b, .sl true 4 ([] : List api_Value).length (flat ([] : List api_Value))])], [], s⟩) (fun J => ?_) ?_); rotate_left; rintro given3)
    | simp -implicitDefEqProofs only [go_sem, start, startE, resVs, resV, resC, allV, retK, Nat.reduceBEq, Nat.reduceAdd, Nat.reduceMul, Nat.reduceLeDiff, Nat.reduceEqDiff, Nat.reduceBNe, Nat.ble_eq, UInt8.reduceToNat])
theorem tree_leaf_fe {n_0 page_1 path_2 given_3} {s : Store} {r : tree_Leaf}  (h : tree_leaf n_0 page_1 path_2 given_3 = some r) : FE Go.Proofs.Tryz.prog 45 [.int .i64 n_0, .agg [.int .i64 page_1.Kind, .int .i64 page_1.N, .str page_1.S.b, .sl false 4 page_1.L.length (flat page_1.L)], .sl false 1 path_2.length (flat path_2), .agg [.int .i64 given_3.Kind, .int .i64 given_3.N, .str given_3.S.b, .sl false 4 given_3.L.length (flat given_3.L)]] s [.agg [.int .i64 r.Page, .sl false 1 r.Path.length (flat r.Path), .int .i64 r.Given.Kind, .int .i64 r.Given.N, .str r.Given.S.b, .sl false 4 r.Given.L.length (flat r.Given.L)]] s := tree_leaf_fn   ⟨r, h, rfl, rfl⟩
end Go.AB
end
