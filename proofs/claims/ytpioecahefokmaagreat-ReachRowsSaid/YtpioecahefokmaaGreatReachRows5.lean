/- A part of the proof: Rc0. -/
import Derived.Test.YtpioecahefokmaaGreatReachRows4
set_option linter.unusedSimpArgs false
set_option linter.unusedVariables false
section
set_option maxRecDepth 4000
namespace Go.AB
open Go
@[go_sem] theorem ble11 : Nat.ble 1 1 = true := rfl
@[go_sem] theorem ble12 : Nat.ble 1 2 = true := rfl
@[go_sem] theorem ble13 : Nat.ble 1 3 = true := rfl
@[go_sem] theorem ble14 : Nat.ble 1 4 = true := rfl
@[go_sem] theorem ble16 : Nat.ble 1 6 = true := rfl
@[go_sem] theorem part0_V (l : List api_Value) (hi : Int) : AB.sub (flat l) 0 (hi.toNat * 4) = flat (part l 0 hi) := by
  have := flat_part 4 l 0 hi rfl
  rw [Int.sub_zero] at this
  exact this
@[go_sem] theorem part0 {α : Type} [Enc α] (n : Nat) (l : List α) (hi : Int) (hn : n = Enc.w α) : AB.sub (flat l) 0 (hi.toNat * n) = flat (part l 0 hi) := by
  have := flat_part n l 0 hi hn
  rwa [Int.sub_zero, show ((0 : Int).toNat * n) = 0 from by simp] at this
theorem call_to_gv {β : Type} {g : Bool} {z : β} {o : Option β} {kf : β → Prop} {P : Program} {f : FuncId} {as2 : List AV} {s : Store} {enc : β → List AV} {Q : List AV → Prop} {C : FuncId → List AV → Prop}
    (ha : g = true → C f as2) (hok : fnOK P f = true) (hf : ∀ r, o = some r → FE P f as2 s (enc r) s) (hr : ∀ r, rsOK (enc r) = true) (hk : ∀ r, kf r → Q (enc r)) :
    ok (whenB g z o) kf → ∃ rs, rsOK rs = true ∧ (g = true → ∃ f as2, C f as2 ∧ fnOK P f = true ∧ FE P f as2 s rs s) ∧ Q rs := fun h => by
  rw [ok_when] at h
  obtain ⟨r, h1, _, k⟩ := h
  exact ⟨enc r, hr r, fun hg => ⟨f, as2, ha hg, hok, hf r (h1 hg)⟩, hk r k⟩
theorem callee_w {t : Nat} {args : List IX} {b : Bool} {σ : St} {f : FuncId} {as2 : List AV} (h : σ.x (.t t) = .when b (.fn f [] [])) (ha : argsV (xg b σ) args = some as2) : callee (.t t) args b σ f as2 :=
  ⟨[], [], as2, by unfold xg; rw [h]; cases b <;> rfl, ha, by simp⟩
@[go_sem] theorem ix_toNat {α : Type} [Enc α] (l : List α) (i : Int) : ix l ((i.toNat : Nat) : Int) = ix l i := rfl
@[go_sem] theorem pad_int_n (l : List Int) (n : Nat) : pad [.int .i64 0] (views (AB.sub (flat l) (n * 1) 1)) = [.int .i64 (ix l (n : Int))] := pad_int l n
theorem FN_cast {P : Program} {f : FuncId} {as1 as2 : List AV} {s : Store} {Q : List AV → Store → Prop} (e : as1 = as2) (h : FN P f as1 s Q) : FN P f as2 s Q := e ▸ h
theorem lit_t {X A B : Prop} (h : X → A) : X → (true = true → A) ∧ (true = false → B) := fun x => ⟨fun _ => h x, fun e => (by cases e)⟩
theorem lit_f {X A B : Prop} (h : X → B) : X → (false = true → A) ∧ (false = false → B) := fun x => ⟨fun e => (by cases e), fun _ => h x⟩
theorem lit_t2 {X A B : Prop} (h : X → A) : X → (True → A) ∧ (true = false → B) := fun x => ⟨fun _ => h x, fun e => (by cases e)⟩
theorem lit_f2 {X A B : Prop} (h : X → B) : X → (false = true → A) ∧ (True → B) := fun x => ⟨fun e => (by cases e), fun _ => h x⟩
structure api_Object where
  V : api_Value
  Stream : Bool
  Data : Str
instance : Enc api_Object := ⟨6, fun x => [.int .i64 x.V.Kind, .int .i64 x.V.N, .str x.V.S.b, .sl false 4 x.V.L.length (flat x.V.L), .bool x.Stream, .str x.Data.b], (api_Object.mk (api_Value.mk 0 0 (Str.mk []) []) false (Str.mk [])), by decide, fun _ => rfl, fun _ => rfl⟩
@[go_sem] theorem cells_api_Object (x : api_Object) : Enc.cells x = [.int .i64 x.V.Kind, .int .i64 x.V.N, .str x.V.S.b, .sl false 4 x.V.L.length (flat x.V.L), .bool x.Stream, .str x.Data.b] := rfl
@[go_sem] theorem w_api_Object : Enc.w api_Object = 6 := rfl
@[go_sem] theorem pad_api_Object (l : List api_Object) (i : Int) : pad [.int .i64 0, .int .i64 0, .str [], .sl false 4 0 [], .bool false, .str []] (views (AB.sub (flat l) (i.toNat * 6) 6)) = [.int .i64 (((ix l i).V).Kind), .int .i64 (((ix l i).V).N), .str (((ix l i).V).S).b, .sl false 4 (((ix l i).V).L).length (flat (((ix l i).V).L)), .bool ((ix l i).Stream), .str ((ix l i).Data).b] := by
  rw [← cells_api_Object]; exact flat_pad _ 6 l i (by rw [cells_api_Object]; rfl) rfl
@[go_sem] theorem mk_api_Object (x : api_Object) : api_Object.mk x.V x.Stream x.Data = x := by cases x; rfl
structure api_Doc where
  Objects : (List api_Object)
  Root : Int
instance : Enc api_Doc := ⟨2, fun x => [.sl false 6 x.Objects.length (flat x.Objects), .int .i64 x.Root], (api_Doc.mk [] 0), by decide, fun _ => rfl, fun _ => rfl⟩
@[go_sem] theorem cells_api_Doc (x : api_Doc) : Enc.cells x = [.sl false 6 x.Objects.length (flat x.Objects), .int .i64 x.Root] := rfl
@[go_sem] theorem w_api_Doc : Enc.w api_Doc = 2 := rfl
@[go_sem] theorem pad_api_Doc (l : List api_Doc) (i : Int) : pad [.sl false 6 0 [], .int .i64 0] (views (AB.sub (flat l) (i.toNat * 2) 2)) = [.sl false 6 ((ix l i).Objects).length (flat ((ix l i).Objects)), .int .i64 ((ix l i).Root)] := by
  rw [← cells_api_Doc]; exact flat_pad _ 2 l i (by rw [cells_api_Doc]; rfl) rfl
@[go_sem] theorem mk_api_Doc (x : api_Doc) : api_Doc.mk x.Objects x.Root = x := by cases x; rfl
structure ref20_Leaf where
  Page : Int
  Path : (List Int)
  Given : api_Value
instance : Enc ref20_Leaf := ⟨6, fun x => [.int .i64 x.Page, .sl false 1 x.Path.length (flat x.Path), .int .i64 x.Given.Kind, .int .i64 x.Given.N, .str x.Given.S.b, .sl false 4 x.Given.L.length (flat x.Given.L)], (ref20_Leaf.mk 0 [] (api_Value.mk 0 0 (Str.mk []) [])), by decide, fun _ => rfl, fun _ => rfl⟩
@[go_sem] theorem cells_ref20_Leaf (x : ref20_Leaf) : Enc.cells x = [.int .i64 x.Page, .sl false 1 x.Path.length (flat x.Path), .int .i64 x.Given.Kind, .int .i64 x.Given.N, .str x.Given.S.b, .sl false 4 x.Given.L.length (flat x.Given.L)] := rfl
@[go_sem] theorem w_ref20_Leaf : Enc.w ref20_Leaf = 6 := rfl
@[go_sem] theorem pad_ref20_Leaf (l : List ref20_Leaf) (i : Int) : pad [.int .i64 0, .sl false 1 0 [], .int .i64 0, .int .i64 0, .str [], .sl false 4 0 []] (views (AB.sub (flat l) (i.toNat * 6) 6)) = [.int .i64 ((ix l i).Page), .sl false 1 ((ix l i).Path).length (flat ((ix l i).Path)), .int .i64 (((ix l i).Given).Kind), .int .i64 (((ix l i).Given).N), .str (((ix l i).Given).S).b, .sl false 4 (((ix l i).Given).L).length (flat (((ix l i).Given).L))] := by
  rw [← cells_ref20_Leaf]; exact flat_pad _ 6 l i (by rw [cells_ref20_Leaf]; rfl) rfl
@[go_sem] theorem mk_ref20_Leaf (x : ref20_Leaf) : ref20_Leaf.mk x.Page x.Path x.Given = x := by cases x; rfl
/-- catchword/catchwordref11.Few -/
def ref11_Few : Nat → api_Value → Int → Option (Int)
  | 0, _, _ => none
  | fuel + 1, v_0, left_1 =>
    jn (
      iter (fun ((left2, k3) : Int × Int) =>
        if (decide (k3 < (v_0.L.length : Int))) && (decide (left2 ≥ 0)) then
          need (0 ≤ k3 ∧ k3 < v_0.L.length) <|
          bnd (ref11_Few fuel (ix v_0.L k3) left2) fun r5 =>
          some (.inl (r5, w64 (k3 + 1)))
        else
          some (.inr left2)) (w64 (left_1 - 1), 0)) fun (left1 : Int) =>
    some left1
def ir_ref11_Few : IC :=
 (.seq (.reg none [i1 2 (.boxL 4 (.t 0)),
 i1 4 (.mov false (.c (.int .i64 0)))] [1, 2])
 (.seq (.reg none [mv 6 1,
 i1 7 (.bin .sub (.t 6) (.c (.int .i64 1))),
 mv 1 7] [1, 2])
 (.join [(1, false)] (.seq (.reg none [i1 5 (.mov false (.c (.int .i64 0)))] [1, 2, 5])
 (.block 0 (.loop [(1, false), (2, false), (5, false)] (.seq (.seq (.reg none [mv 8 5,
 i1 9 (.fieldAddr 3 (.t 2)),
 i1 10 (.load 1 false (.t 9)),
 i1 11 (.len 0 (.t 10)),
 i1 12 (.bin .lss (.t 8) (.t 11)),
 mv 13 12,
 mvg 14 1 13 true,
 i1g 15 13 true (.bin .geq (.t 14) (.c (.int .i64 0))),
 i1 16 (.pick (.t 13) (.t 15) (.c (.bool false)))] [1, 2, 5, 16])
 (.cond (.t 16) .skip
 (.exit 0)))
 (.seq (.block 1 (.reg none [i1 19 (.fieldAddr 3 (.t 2)),
 i1 20 (.load 1 false (.t 19)),
 mv 21 5,
 i1 22 (.indexAddr [.int .i64 0, .int .i64 0, .str [], .sl false 4 0 []] (.t 20) (.t 21)),
 i1 23 (.load 4 true (.t 22)),
 mv 24 1,
 i1 25 (.call 26 [(.t 23), (.t 24)]),
 mv 1 25] [1, 2, 5]))
 (.reg none [mv 17 5,
 i1 18 (.bin .add (.t 17) (.c (.int .i64 1))),
 mv 5 18] [1, 2, 5]))))))
 (.seq (.reg none [mv 26 1,
 mv 4 26] [4])
 .ret))))
def res_ref11_Few : List IRes := [⟨4, true, none⟩]
theorem is_ref11_Few : fnIs Go.Proofs.Tryz.prog 26 27 res_ref11_Few ir_ref11_Few = true := by kernel_rfl
theorem ref11_Few_fn {fuel : Nat} : ∀ {v_0 : api_Value} {left_1 : Int} {s : Store} {Q : List AV → Store → Prop} , ok (ref11_Few fuel v_0 left_1) (fun r => Q [.int .i64 r] s) → FN Go.Proofs.Tryz.prog 26 [.agg [.int .i64 v_0.Kind, .int .i64 v_0.N, .str v_0.S.b, .sl false 4 v_0.L.length (flat v_0.L)], .int .i64 left_1] s Q := by
  induction fuel with
  | zero => intros; rename_i h; rw [ref11_Few] at h; exact absurd h (by rw [ok_none]; exact fun h => h)
  | succ fuel ih =>
  have ihfe : ∀ {v_0 : api_Value} {left_1 : Int} {s : Store} {r : Int} , ref11_Few fuel v_0 left_1 = some r → FE Go.Proofs.Tryz.prog 26 [.agg [.int .i64 v_0.Kind, .int .i64 v_0.N, .str v_0.S.b, .sl false 4 v_0.L.length (flat v_0.L)], .int .i64 left_1] s [.int .i64 r] s := fun  h => ih  ⟨_, h, rfl, rfl⟩
  intro v_0 left_1  s Q 
  intro h
  refine FN.of (draw_ok mix) is_ref11_Few rfl (Nat.le_of_ble_eq_true rfl) ?_
  revert h
  rw [ir_ref11_Few, res_ref11_Few, ref11_Few]
  repeat' (first
    | with_reducible exact tt_to
    | with_reducible refine and_to ?_ ?_
    | with_reducible refine im_to ?_
    | with_reducible refine call_to (fun _ (h : ref11_Few fuel (ix v_0.L k3) left2 = some _) => ihfe h) (fun r5 => ?_)
    | with_reducible refine call_to_q (fun _ (h : ref11_Few fuel (ix v_0.L k3) left2 = some _) => ihfe h) (fun _ => rfl) (fun r5 => ?_)
    | with_reducible refine call_to (fun _ (h : ref11_Few fuel (ix v_0.L k3) left2 = some _) => (by refine FE_cast ?_ (ihfe h); simp -implicitDefEqProofs only [go_sem, start, startE, resVs, resV, resC, allV, retK, Nat.reduceBEq, Nat.reduceAdd, Nat.reduceMul, Nat.reduceLeDiff, Nat.reduceEqDiff, Nat.reduceBNe, Nat.ble_eq, UInt8.reduceToNat])) (fun r5 => ?_)
    | with_reducible refine call_to_q (fun _ (h : ref11_Few fuel (ix v_0.L k3) left2 = some _) => (by refine FE_cast ?_ (ihfe h); simp -implicitDefEqProofs only [go_sem, start, startE, resVs, resV, resC, allV, retK, Nat.reduceBEq, Nat.reduceAdd, Nat.reduceMul, Nat.reduceLeDiff, Nat.reduceEqDiff, Nat.reduceBNe, Nat.ble_eq, UInt8.reduceToNat])) (fun _ => rfl) (fun r5 => ?_)
    | with_reducible refine call_to (fun _ (h : ref11_Few fuel (ix v_0.L k3) left2 = some _) => (by have hx := ihfe (s := s) h; simp -implicitDefEqProofs only [go_sem, start, startE, resVs, resV, resC, allV, retK, Nat.reduceBEq, Nat.reduceAdd, Nat.reduceMul, Nat.reduceLeDiff, Nat.reduceEqDiff, Nat.reduceBNe, Nat.ble_eq, UInt8.reduceToNat] at hx; exact hx)) (fun r5 => ?_)
    | ((with_reducible refine iter_to (fun ((left2, k3) : Int × Int) => ⟨[(1, .int .i64 left2), (2, .loc [.int .i64 v_0.Kind, .int .i64 v_0.N, .str v_0.S.b, .sl false 4 v_0.L.length (flat v_0.L)]), (5, .int .i64 k3)], [], s⟩) ?_ ?_); (first | exact rfl | simp -implicitDefEqProofs only [go_sem, start, startE, resVs, resV, resC, allV, retK, Nat.reduceBEq, Nat.reduceAdd, Nat.reduceMul, Nat.reduceLeDiff, Nat.reduceEqDiff, Nat.reduceBNe, Nat.ble_eq, UInt8.reduceToNat]); rintro J ⟨left2, k3⟩)
    | ((with_reducible refine join_to (fun (left1 : Int) => ⟨[(1, .int .i64 left1)], [], s⟩) (fun J => ?_) ?_); rotate_left; rintro left1)
    | simp -implicitDefEqProofs only [go_sem, start, startE, resVs, resV, resC, allV, retK, Nat.reduceBEq, Nat.reduceAdd, Nat.reduceMul, Nat.reduceLeDiff, Nat.reduceEqDiff, Nat.reduceBNe, Nat.ble_eq, UInt8.reduceToNat])
theorem ref11_Few_fe {fuel : Nat} {v_0 left_1} {s : Store} {r : Int}  (h : ref11_Few fuel v_0 left_1 = some r) : FE Go.Proofs.Tryz.prog 26 [.agg [.int .i64 v_0.Kind, .int .i64 v_0.N, .str v_0.S.b, .sl false 4 v_0.L.length (flat v_0.L)], .int .i64 left_1] s [.int .i64 r] s := ref11_Few_fn  ⟨r, h, rfl, rfl⟩
/-- catchword/catchwordref14.texts -/
def ref14_texts : Nat → api_Value → Option (Bool)
  | 0, _ => none
  | fuel + 1, v_0 =>
    jnS (
      bndS (
        iter (fun (k3 : Int) =>
          if decide (k3 < (v_0.L.length : Int)) then
            need (0 ≤ k3 ∧ k3 < v_0.L.length) <|
            bnd (ref14_texts fuel (ix v_0.L k3)) fun r6 =>
            if !r6 then
              some (.inr (.inr false))
            else
              some (.inl (w64 (k3 + 1)))
          else
            some (.inr (.inl ()))) 0) (fun (_ : Unit) =>
        some (.inl ()))
      (fun (t5 : Bool) => some (.inr t5))) (fun (_ : Unit) =>
      some (decide ((v_0.S.b.length : Int) ≤ 300)))
    (fun (t2 : Bool) => some t2)
def ir_ref14_texts : IC :=
 (.seq (.reg none [i1 1 (.boxL 4 (.t 0)),
 i1 2 (.mov false (.c (.bool false)))] [1])
 (.join [(1, false)] (.seq (.reg none [i1 3 (.mov false (.c (.int .i64 0)))] [1, 3])
 (.block 0 (.loop [(1, false), (3, false)] (.seq (.seq (.reg none [mv 4 3,
 i1 5 (.fieldAddr 3 (.t 1)),
 i1 6 (.load 1 false (.t 5)),
 i1 7 (.len 0 (.t 6)),
 i1 8 (.bin .lss (.t 4) (.t 7))] [1, 3, 8])
 (.cond (.t 8) .skip
 (.exit 0)))
 (.seq (.block 1 (.seq (.reg none [i1 11 (.fieldAddr 3 (.t 1)),
 i1 12 (.load 1 false (.t 11)),
 mv 13 3,
 i1 14 (.indexAddr [.int .i64 0, .int .i64 0, .str [], .sl false 4 0 []] (.t 12) (.t 13)),
 i1 15 (.load 4 true (.t 14)),
 i1 16 (.call 52 [(.t 15)]),
 i1 17 (.un .not (.t 16))] [1, 3, 17])
 (.cond (.t 17) (.seq (.reg none [i1 2 (.mov false (.c (.bool false)))] [2])
 .ret)
 .skip)))
 (.reg none [mv 9 3,
 i1 10 (.bin .add (.t 9) (.c (.int .i64 1))),
 mv 3 10] [1, 3]))))))
 (.seq (.reg none [i1 18 (.fieldAddr 2 (.t 1)),
 i1 19 (.load 1 false (.t 18)),
 i1 20 (.len 1 (.t 19)),
 i1 21 (.bin .leq (.t 20) (.c (.int .i64 300))),
 mv 2 21] [2])
 .ret)))
def res_ref14_texts : List IRes := [⟨2, true, none⟩]
theorem is_ref14_texts : fnIs Go.Proofs.Tryz.prog 52 22 res_ref14_texts ir_ref14_texts = true := by kernel_rfl
theorem ref14_texts_fn {fuel : Nat} : ∀ {v_0 : api_Value} {s : Store} {Q : List AV → Store → Prop} , ok (ref14_texts fuel v_0) (fun r => Q [.bool r] s) → FN Go.Proofs.Tryz.prog 52 [.agg [.int .i64 v_0.Kind, .int .i64 v_0.N, .str v_0.S.b, .sl false 4 v_0.L.length (flat v_0.L)]] s Q := by
  induction fuel with
  | zero => intros; rename_i h; rw [ref14_texts] at h; exact absurd h (by rw [ok_none]; exact fun h => h)
  | succ fuel ih =>
  have ihfe : ∀ {v_0 : api_Value} {s : Store} {r : Bool} , ref14_texts fuel v_0 = some r → FE Go.Proofs.Tryz.prog 52 [.agg [.int .i64 v_0.Kind, .int .i64 v_0.N, .str v_0.S.b, .sl false 4 v_0.L.length (flat v_0.L)]] s [.bool r] s := fun  h => ih  ⟨_, h, rfl, rfl⟩
  intro v_0  s Q 
  intro h
  refine FN.of (draw_ok mix) is_ref14_texts rfl (Nat.le_of_ble_eq_true rfl) ?_
  revert h
  rw [ir_ref14_texts, res_ref14_texts, ref14_texts]
  repeat' (first
    | with_reducible exact tt_to
    | with_reducible refine and_to ?_ ?_
    | with_reducible refine im_to ?_
    | with_reducible refine call_to (fun _ (h : ref14_texts fuel (ix v_0.L k3) = some _) => ihfe h) (fun r6 => ?_)
    | with_reducible refine call_to_q (fun _ (h : ref14_texts fuel (ix v_0.L k3) = some _) => ihfe h) (fun _ => rfl) (fun r6 => ?_)
    | with_reducible refine call_to (fun _ (h : ref14_texts fuel (ix v_0.L k3) = some _) => (by refine FE_cast ?_ (ihfe h); simp -implicitDefEqProofs only [go_sem, start, startE, resVs, resV, resC, allV, retK, Nat.reduceBEq, Nat.reduceAdd, Nat.reduceMul, Nat.reduceLeDiff, Nat.reduceEqDiff, Nat.reduceBNe, Nat.ble_eq, UInt8.reduceToNat])) (fun r6 => ?_)
    | with_reducible refine call_to_q (fun _ (h : ref14_texts fuel (ix v_0.L k3) = some _) => (by refine FE_cast ?_ (ihfe h); simp -implicitDefEqProofs only [go_sem, start, startE, resVs, resV, resC, allV, retK, Nat.reduceBEq, Nat.reduceAdd, Nat.reduceMul, Nat.reduceLeDiff, Nat.reduceEqDiff, Nat.reduceBNe, Nat.ble_eq, UInt8.reduceToNat])) (fun _ => rfl) (fun r6 => ?_)
    | with_reducible refine call_to (fun _ (h : ref14_texts fuel (ix v_0.L k3) = some _) => (by have hx := ihfe (s := s) h; simp -implicitDefEqProofs only [go_sem, start, startE, resVs, resV, resC, allV, retK, Nat.reduceBEq, Nat.reduceAdd, Nat.reduceMul, Nat.reduceLeDiff, Nat.reduceEqDiff, Nat.reduceBNe, Nat.ble_eq, UInt8.reduceToNat] at hx; exact hx)) (fun r6 => ?_)
    | ((with_reducible refine iter_to (fun (k3 : Int) => ⟨[(1, .loc [.int .i64 v_0.Kind, .int .i64 v_0.N, .str v_0.S.b, .sl false 4 v_0.L.length (flat v_0.L)]), (3, .int .i64 k3)], [], s⟩) ?_ ?_); (first | exact rfl | simp -implicitDefEqProofs only [go_sem, start, startE, resVs, resV, resC, allV, retK, Nat.reduceBEq, Nat.reduceAdd, Nat.reduceMul, Nat.reduceLeDiff, Nat.reduceEqDiff, Nat.reduceBNe, Nat.ble_eq, UInt8.reduceToNat]); rintro J k3)
    | ((with_reducible refine join_toS (fun (_ : Unit) => ⟨[(1, .loc [.int .i64 v_0.Kind, .int .i64 v_0.N, .str v_0.S.b, .sl false 4 v_0.L.length (flat v_0.L)])], [], s⟩) (fun J => ?_) ?_); rotate_left; rintro _)
    | simp -implicitDefEqProofs only [go_sem, start, startE, resVs, resV, resC, allV, retK, Nat.reduceBEq, Nat.reduceAdd, Nat.reduceMul, Nat.reduceLeDiff, Nat.reduceEqDiff, Nat.reduceBNe, Nat.ble_eq, UInt8.reduceToNat])
theorem ref14_texts_fe {fuel : Nat} {v_0} {s : Store} {r : Bool}  (h : ref14_texts fuel v_0 = some r) : FE Go.Proofs.Tryz.prog 52 [.agg [.int .i64 v_0.Kind, .int .i64 v_0.N, .str v_0.S.b, .sl false 4 v_0.L.length (flat v_0.L)]] s [.bool r] s := ref14_texts_fn  ⟨r, h, rfl, rfl⟩
/-- catchword/catchwordref14.Few -/
def ref14_Few (o_0 : api_Object) (data_1 : Int) : Option (Bool) :=
  bnd (ref11_Few bigN o_0.V 300) fun r1 =>
  bnd (whenB ((decide (r1 ≥ 0)) && (decide ((o_0.Data.b.length : Int) ≤ data_1))) false (ref14_texts bigN o_0.V)) fun r2 =>
  some (((decide (r1 ≥ 0)) && (decide ((o_0.Data.b.length : Int) ≤ data_1))) && r2)
def ir_ref14_Few : IC :=
 (.seq (.reg none [i1 2 (.boxL 6 (.t 0)),
 i1 4 (.mov false (.c (.bool false)))] [1, 2])
 (.seq (.reg (some 15) [i1 5 (.fieldAddr 0 (.t 2)),
 i1 6 (.load 4 true (.t 5)),
 i1 7 (.call 26 [(.t 6), (.c (.int .i64 300))]),
 i1 8 (.bin .geq (.t 7) (.c (.int .i64 0))),
 mv 9 8,
 i1g 10 9 true (.fieldAddr 5 (.t 2)),
 i1g 11 9 true (.load 1 false (.t 10)),
 i1g 12 9 true (.len 1 (.t 11)),
 mvg 13 1 9 true,
 i1g 14 9 true (.bin .leq (.t 12) (.t 13)),
 i1 15 (.pick (.t 9) (.t 14) (.c (.bool false))),
 mv 16 15,
 i1g 17 16 true (.fieldAddr 0 (.t 2)),
 i1g 18 16 true (.load 4 true (.t 17)),
 i1g 19 16 true (.call 52 [(.t 18)]),
 i1 20 (.pick (.t 16) (.t 19) (.c (.bool false))),
 mv 4 20] [4])
 .ret))
def res_ref14_Few : List IRes := [⟨4, true, none⟩]
theorem is_ref14_Few : fnIs Go.Proofs.Tryz.prog 25 21 res_ref14_Few ir_ref14_Few = true := by kernel_rfl
theorem ref14_Few_fn {o_0 data_1} {s : Store} {Q : List AV → Store → Prop}  : ok (ref14_Few o_0 data_1) (fun r => Q [.bool r] s) → FN Go.Proofs.Tryz.prog 25 [.agg [.int .i64 o_0.V.Kind, .int .i64 o_0.V.N, .str o_0.V.S.b, .sl false 4 o_0.V.L.length (flat o_0.V.L), .bool o_0.Stream, .str o_0.Data.b], .int .i64 data_1] s Q := by
  intro h
  refine FN.of (draw_ok mix) is_ref14_Few rfl (Nat.le_of_ble_eq_true rfl) ?_
  revert h
  rw [ir_ref14_Few, res_ref14_Few, ref14_Few]
  repeat' (first
    | with_reducible exact tt_to
    | with_reducible refine and_to ?_ ?_
    | with_reducible refine im_to ?_
    | with_reducible refine call_to (fun _ (h : ref11_Few bigN o_0.V 300 = some _) => ref11_Few_fe h) (fun r1 => ?_)
    | with_reducible refine call_to_q (fun _ (h : ref11_Few bigN o_0.V 300 = some _) => ref11_Few_fe h) (fun _ => rfl) (fun r1 => ?_)
    | with_reducible refine call_to (fun _ (h : ref11_Few bigN o_0.V 300 = some _) => (by refine FE_cast ?_ (ref11_Few_fe h); simp -implicitDefEqProofs only [go_sem, start, startE, resVs, resV, resC, allV, retK, Nat.reduceBEq, Nat.reduceAdd, Nat.reduceMul, Nat.reduceLeDiff, Nat.reduceEqDiff, Nat.reduceBNe, Nat.ble_eq, UInt8.reduceToNat])) (fun r1 => ?_)
    | with_reducible refine call_to_q (fun _ (h : ref11_Few bigN o_0.V 300 = some _) => (by refine FE_cast ?_ (ref11_Few_fe h); simp -implicitDefEqProofs only [go_sem, start, startE, resVs, resV, resC, allV, retK, Nat.reduceBEq, Nat.reduceAdd, Nat.reduceMul, Nat.reduceLeDiff, Nat.reduceEqDiff, Nat.reduceBNe, Nat.ble_eq, UInt8.reduceToNat])) (fun _ => rfl) (fun r1 => ?_)
    | with_reducible refine call_to_g rfl (fun _ (h : ref14_texts bigN o_0.V = some _) => ref14_texts_fe h) (fun _ => rfl) (fun r2 => ?_)
    | with_reducible refine call_to_g rfl (fun _ (h : ref14_texts bigN o_0.V = some _) => (by refine FE_cast ?_ (ref14_texts_fe h); simp -implicitDefEqProofs only [go_sem, start, startE, resVs, resV, resC, allV, retK, Nat.reduceBEq, Nat.reduceAdd, Nat.reduceMul, Nat.reduceLeDiff, Nat.reduceEqDiff, Nat.reduceBNe, Nat.ble_eq, UInt8.reduceToNat])) (fun _ => rfl) (fun r2 => ?_)
    | simp -implicitDefEqProofs only [go_sem, start, startE, resVs, resV, resC, allV, retK, Nat.reduceBEq, Nat.reduceAdd, Nat.reduceMul, Nat.reduceLeDiff, Nat.reduceEqDiff, Nat.reduceBNe, Nat.ble_eq, UInt8.reduceToNat])
theorem ref14_Few_fe {o_0 data_1} {s : Store} {r : Bool}  (h : ref14_Few o_0 data_1 = some r) : FE Go.Proofs.Tryz.prog 25 [.agg [.int .i64 o_0.V.Kind, .int .i64 o_0.V.N, .str o_0.V.S.b, .sl false 4 o_0.V.L.length (flat o_0.V.L), .bool o_0.Stream, .str o_0.Data.b], .int .i64 data_1] s [.bool r] s := ref14_Few_fn   ⟨r, h, rfl, rfl⟩
/-- catchword/catchwordref19.Few -/
def ref19_Few (l_0 : (List api_Object)) (most_1 : Int) : Option (Bool) :=
  if decide ((l_0.length : Int) > most_1) then
    some false
  else
    jnS (
      bndS (
        iter (fun (k2 : Int) =>
          if decide (k2 < (l_0.length : Int)) then
            need (0 ≤ k2 ∧ k2 < l_0.length) <|
            bnd (ref14_Few (ix l_0 k2) 300) fun r4 =>
            if !r4 then
              some (.inr (.inr false))
            else
              some (.inl (w64 (k2 + 1)))
          else
            some (.inr (.inl ()))) 0) (fun (_ : Unit) =>
        some (.inl ()))
      (fun (t3 : Bool) => some (.inr t3))) (fun (_ : Unit) =>
      some true)
    (fun (t1 : Bool) => some t1)
def ir_ref19_Few : IC :=
 (.seq (.reg none [i1 4 (.mov false (.c (.bool false)))] [0, 1])
 (.seq (.seq (.reg none [mv 6 0,
 i1 7 (.len 0 (.t 6)),
 mv 8 1,
 i1 9 (.bin .gtr (.t 7) (.t 8))] [0, 9])
 (.cond (.t 9) (.seq (.reg none [i1 4 (.mov false (.c (.bool false)))] [4])
 .ret)
 .skip))
 (.join [] (.seq (.reg none [i1 5 (.mov false (.c (.int .i64 0)))] [0, 5])
 (.block 0 (.loop [(0, true), (5, false)] (.seq (.seq (.reg none [mv 10 5,
 mv 11 0,
 i1 12 (.len 0 (.t 11)),
 i1 13 (.bin .lss (.t 10) (.t 12))] [0, 5, 13])
 (.cond (.t 13) .skip
 (.exit 0)))
 (.seq (.block 1 (.seq (.reg none [mv 16 0,
 mv 17 5,
 i1 18 (.indexAddr [.int .i64 0, .int .i64 0, .str [], .sl false 4 0 [], .bool false, .str []] (.t 16) (.t 17)),
 i1 19 (.load 6 true (.t 18)),
 i1 20 (.call 25 [(.t 19), (.c (.int .i64 300))]),
 i1 21 (.un .not (.t 20))] [0, 5, 21])
 (.cond (.t 21) (.seq (.reg none [i1 4 (.mov false (.c (.bool false)))] [4])
 .ret)
 .skip)))
 (.reg none [mv 14 5,
 i1 15 (.bin .add (.t 14) (.c (.int .i64 1))),
 mv 5 15] [0, 5]))))))
 (.seq (.reg none [i1 4 (.mov false (.c (.bool true)))] [4])
 .ret))))
def res_ref19_Few : List IRes := [⟨4, true, none⟩]
theorem is_ref19_Few : fnIs Go.Proofs.Tryz.prog 6 22 res_ref19_Few ir_ref19_Few = true := by kernel_rfl
theorem ref19_Few_fn {l_0 most_1} {s : Store} {Q : List AV → Store → Prop}  : ok (ref19_Few l_0 most_1) (fun r => Q [.bool r] s) → FN Go.Proofs.Tryz.prog 6 [.sl false 6 l_0.length (flat l_0), .int .i64 most_1] s Q := by
  intro h
  refine FN.of (draw_ok mix) is_ref19_Few rfl (Nat.le_of_ble_eq_true rfl) ?_
  revert h
  rw [ir_ref19_Few, res_ref19_Few, ref19_Few]
  repeat' (first
    | with_reducible exact tt_to
    | with_reducible refine and_to ?_ ?_
    | with_reducible refine im_to ?_
    | with_reducible refine call_to (fun _ (h : ref14_Few (ix l_0 k2) 300 = some _) => ref14_Few_fe h) (fun r4 => ?_)
    | with_reducible refine call_to_q (fun _ (h : ref14_Few (ix l_0 k2) 300 = some _) => ref14_Few_fe h) (fun _ => rfl) (fun r4 => ?_)
    | with_reducible refine call_to (fun _ (h : ref14_Few (ix l_0 k2) 300 = some _) => (by refine FE_cast ?_ (ref14_Few_fe h); simp -implicitDefEqProofs only [go_sem, start, startE, resVs, resV, resC, allV, retK, Nat.reduceBEq, Nat.reduceAdd, Nat.reduceMul, Nat.reduceLeDiff, Nat.reduceEqDiff, Nat.reduceBNe, Nat.ble_eq, UInt8.reduceToNat])) (fun r4 => ?_)
    | with_reducible refine call_to_q (fun _ (h : ref14_Few (ix l_0 k2) 300 = some _) => (by refine FE_cast ?_ (ref14_Few_fe h); simp -implicitDefEqProofs only [go_sem, start, startE, resVs, resV, resC, allV, retK, Nat.reduceBEq, Nat.reduceAdd, Nat.reduceMul, Nat.reduceLeDiff, Nat.reduceEqDiff, Nat.reduceBNe, Nat.ble_eq, UInt8.reduceToNat])) (fun _ => rfl) (fun r4 => ?_)
    | ((with_reducible refine iter_to (fun (k2 : Int) => ⟨[(0, .sl false 6 l_0.length (flat l_0)), (5, .int .i64 k2)], [], s⟩) ?_ ?_); (first | exact rfl | simp -implicitDefEqProofs only [go_sem, start, startE, resVs, resV, resC, allV, retK, Nat.reduceBEq, Nat.reduceAdd, Nat.reduceMul, Nat.reduceLeDiff, Nat.reduceEqDiff, Nat.reduceBNe, Nat.ble_eq, UInt8.reduceToNat]); rintro J k2)
    | ((with_reducible refine join_toS (fun (_ : Unit) => ⟨[], [], s⟩) (fun J => ?_) ?_); rotate_left; rintro _)
    | simp -implicitDefEqProofs only [go_sem, start, startE, resVs, resV, resC, allV, retK, Nat.reduceBEq, Nat.reduceAdd, Nat.reduceMul, Nat.reduceLeDiff, Nat.reduceEqDiff, Nat.reduceBNe, Nat.ble_eq, UInt8.reduceToNat])
theorem ref19_Few_fe {l_0 most_1} {s : Store} {r : Bool}  (h : ref19_Few l_0 most_1 = some r) : FE Go.Proofs.Tryz.prog 6 [.sl false 6 l_0.length (flat l_0), .int .i64 most_1] s [.bool r] s := ref19_Few_fn   ⟨r, h, rfl, rfl⟩
/-- catchword/catchwordref21.Few -/
def ref21_Few (l_0 : ref20_Leaf) : Option (Bool) :=
  bnd (ref11_Few bigN l_0.Given 300) fun r1 =>
  some (decide (r1 ≥ 0))
def ir_ref21_Few : IC :=
 (.seq (.reg none [i1 1 (.boxL 6 (.t 0)),
 i1 2 (.mov false (.c (.bool false)))] [1])
 (.seq (.reg none [i1 3 (.fieldAddr 2 (.t 1)),
 i1 4 (.load 4 true (.t 3)),
 i1 5 (.call 26 [(.t 4), (.c (.int .i64 300))]),
 i1 6 (.bin .geq (.t 5) (.c (.int .i64 0))),
 mv 2 6] [2])
 .ret))
def res_ref21_Few : List IRes := [⟨2, true, none⟩]
theorem is_ref21_Few : fnIs Go.Proofs.Tryz.prog 7 7 res_ref21_Few ir_ref21_Few = true := by kernel_rfl
theorem ref21_Few_fn {l_0} {s : Store} {Q : List AV → Store → Prop}  : ok (ref21_Few l_0) (fun r => Q [.bool r] s) → FN Go.Proofs.Tryz.prog 7 [.agg [.int .i64 l_0.Page, .sl false 1 l_0.Path.length (flat l_0.Path), .int .i64 l_0.Given.Kind, .int .i64 l_0.Given.N, .str l_0.Given.S.b, .sl false 4 l_0.Given.L.length (flat l_0.Given.L)]] s Q := by
  intro h
  refine FN.of (draw_ok mix) is_ref21_Few rfl (Nat.le_of_ble_eq_true rfl) ?_
  revert h
  rw [ir_ref21_Few, res_ref21_Few, ref21_Few]
  repeat' (first
    | with_reducible exact tt_to
    | with_reducible refine and_to ?_ ?_
    | with_reducible refine im_to ?_
    | with_reducible refine call_to (fun _ (h : ref11_Few bigN l_0.Given 300 = some _) => ref11_Few_fe h) (fun r1 => ?_)
    | with_reducible refine call_to_q (fun _ (h : ref11_Few bigN l_0.Given 300 = some _) => ref11_Few_fe h) (fun _ => rfl) (fun r1 => ?_)
    | with_reducible refine call_to (fun _ (h : ref11_Few bigN l_0.Given 300 = some _) => (by refine FE_cast ?_ (ref11_Few_fe h); simp -implicitDefEqProofs only [go_sem, start, startE, resVs, resV, resC, allV, retK, Nat.reduceBEq, Nat.reduceAdd, Nat.reduceMul, Nat.reduceLeDiff, Nat.reduceEqDiff, Nat.reduceBNe, Nat.ble_eq, UInt8.reduceToNat])) (fun r1 => ?_)
    | with_reducible refine call_to_q (fun _ (h : ref11_Few bigN l_0.Given 300 = some _) => (by refine FE_cast ?_ (ref11_Few_fe h); simp -implicitDefEqProofs only [go_sem, start, startE, resVs, resV, resC, allV, retK, Nat.reduceBEq, Nat.reduceAdd, Nat.reduceMul, Nat.reduceLeDiff, Nat.reduceEqDiff, Nat.reduceBNe, Nat.ble_eq, UInt8.reduceToNat])) (fun _ => rfl) (fun r1 => ?_)
    | simp -implicitDefEqProofs only [go_sem, start, startE, resVs, resV, resC, allV, retK, Nat.reduceBEq, Nat.reduceAdd, Nat.reduceMul, Nat.reduceLeDiff, Nat.reduceEqDiff, Nat.reduceBNe, Nat.ble_eq, UInt8.reduceToNat])
theorem ref21_Few_fe {l_0} {s : Store} {r : Bool}  (h : ref21_Few l_0 = some r) : FE Go.Proofs.Tryz.prog 7 [.agg [.int .i64 l_0.Page, .sl false 1 l_0.Path.length (flat l_0.Path), .int .i64 l_0.Given.Kind, .int .i64 l_0.Given.N, .str l_0.Given.S.b, .sl false 4 l_0.Given.L.length (flat l_0.Given.L)]] s [.bool r] s := ref21_Few_fn   ⟨r, h, rfl, rfl⟩
/-- catchword/value.RefTo -/
def value_RefTo (n_0 : Int) : Option (api_Value) :=
  some (api_Value.mk 8 n_0 (Str.mk []) ([] : List api_Value))
def ir_value_RefTo : IC :=
 (.seq (.reg none [i1 2 (.allocL [.int .i64 0, .int .i64 0, .str [], .sl true 4 0 []])] [0, 2])
 (.seq (.reg none [mv 3 0,
 i1 4 (.build [.int .i64 0, .int .i64 0, .str [], .sl true 4 0 []] [(0, 1, (.c (.int .i64 8))), (1, 1, (.t 3))]),
 i0 (.store 4 (.t 2) (.t 4))] [2])
 .ret))
def res_value_RefTo : List IRes := [⟨2, false, some (4, true)⟩]
theorem is_value_RefTo : fnIs Go.Proofs.Tryz.prog 28 5 res_value_RefTo ir_value_RefTo = true := by kernel_rfl
theorem value_RefTo_fn {n_0} {s : Store} {Q : List AV → Store → Prop}  : ok (value_RefTo n_0) (fun r => Q [.agg [.int .i64 r.Kind, .int .i64 r.N, .str r.S.b, .sl false 4 r.L.length (flat r.L)]] s) → FN Go.Proofs.Tryz.prog 28 [.int .i64 n_0] s Q := by
  intro h
  refine FN.of (draw_ok mix) is_value_RefTo rfl (Nat.le_of_ble_eq_true rfl) ?_
  revert h
  rw [ir_value_RefTo, res_value_RefTo, value_RefTo]
  repeat' (first
    | with_reducible exact tt_to
    | with_reducible refine and_to ?_ ?_
    | with_reducible refine im_to ?_
    | simp -implicitDefEqProofs only [go_sem, start, startE, resVs, resV, resC, allV, retK, Nat.reduceBEq, Nat.reduceAdd, Nat.reduceMul, Nat.reduceLeDiff, Nat.reduceEqDiff, Nat.reduceBNe, Nat.ble_eq, UInt8.reduceToNat])
theorem value_RefTo_fe {n_0} {s : Store} {r : api_Value}  (h : value_RefTo n_0 = some r) : FE Go.Proofs.Tryz.prog 28 [.int .i64 n_0] s [.agg [.int .i64 r.Kind, .int .i64 r.N, .str r.S.b, .sl false 4 r.L.length (flat r.L)]] s := value_RefTo_fn   ⟨r, h, rfl, rfl⟩
/-- catchword/value.DictOf -/
def value_DictOf (l_0 : (List api_Value)) : Option (api_Value) :=
  jn (
    iter (fun ((v3, i4) : api_Value × Int) =>
      if decide (w64 (i4 + 1) < (l_0.length : Int)) then
        need (0 ≤ i4 ∧ i4 < l_0.length) <|
        need (0 ≤ w64 (i4 + 1) ∧ w64 (i4 + 1) < l_0.length) <|
        bnd (value_Put v3 ((ix l_0 i4).S) (ix l_0 (w64 (i4 + 1)))) fun r7 =>
        some (.inl (r7, w64 (i4 + 2)))
      else
        some (.inr v3)) ((api_Value.mk 7 0 (Str.mk []) ([] : List api_Value)), 0)) fun (v2 : api_Value) =>
  some v2
def ir_value_DictOf : IC :=
 (.seq (.reg none [i1 2 (.allocL [.int .i64 0, .int .i64 0, .str [], .sl true 4 0 []])] [0, 2])
 (.seq (.reg none [i1 5 (.build [.int .i64 0, .int .i64 0, .str [], .sl true 4 0 []] [(0, 1, (.c (.int .i64 7)))]),
 i1 3 (.allocL [.int .i64 0, .int .i64 0, .str [], .sl true 4 0 []]),
 i0 (.store 4 (.t 3) (.t 5))] [0, 2, 3])
 (.join [(2, false), (3, false)] (.seq (.reg none [i1 4 (.mov false (.c (.int .i64 0)))] [0, 2, 3, 4])
 (.block 0 (.loop [(0, true), (2, false), (3, false), (4, false)] (.seq (.seq (.reg none [mv 6 4,
 i1 7 (.bin .add (.t 6) (.c (.int .i64 1))),
 mv 8 0,
 i1 9 (.len 0 (.t 8)),
 i1 10 (.bin .lss (.t 7) (.t 9))] [0, 2, 3, 4, 10])
 (.cond (.t 10) .skip
 (.exit 0)))
 (.seq (.block 1 (.reg (some 12) [i1 13 (.load 4 true (.t 3)),
 mv 14 0,
 mv 15 4,
 i1 16 (.indexAddr [.int .i64 0, .int .i64 0, .str [], .sl false 4 0 []] (.t 14) (.t 15)),
 i1 17 (.fieldAddr 2 (.t 16)),
 i1 18 (.load 1 false (.t 17)),
 mv 19 0,
 mv 20 4,
 i1 21 (.bin .add (.t 20) (.c (.int .i64 1))),
 i1 22 (.indexAddr [.int .i64 0, .int .i64 0, .str [], .sl false 4 0 []] (.t 19) (.t 21)),
 i1 23 (.load 4 true (.t 22)),
 i1 24 (.call 53 [(.t 13), (.t 18), (.t 23)]),
 i0 (.store 4 (.t 3) (.t 24))] [0, 2, 3, 4]))
 (.reg none [mv 11 4,
 i1 12 (.bin .add (.t 11) (.c (.int .i64 2))),
 mv 4 12] [0, 2, 3, 4]))))))
 (.seq (.reg none [i1 25 (.load 4 true (.t 3)),
 i0 (.store 4 (.t 2) (.t 25))] [2])
 .ret))))
def res_value_DictOf : List IRes := [⟨2, false, some (4, true)⟩]
theorem is_value_DictOf : fnIs Go.Proofs.Tryz.prog 29 26 res_value_DictOf ir_value_DictOf = true := by kernel_rfl
theorem value_DictOf_fn {l_0} {s : Store} {Q : List AV → Store → Prop}  : ok (value_DictOf l_0) (fun r => Q [.agg [.int .i64 r.Kind, .int .i64 r.N, .str r.S.b, .sl false 4 r.L.length (flat r.L)]] s) → FN Go.Proofs.Tryz.prog 29 [.sl false 4 l_0.length (flat l_0)] s Q := by
  intro h
  refine FN.of (draw_ok mix) is_value_DictOf rfl (Nat.le_of_ble_eq_true rfl) ?_
  revert h
  rw [ir_value_DictOf, res_value_DictOf, value_DictOf]
  repeat' (first
    | with_reducible exact tt_to
    | with_reducible refine and_to ?_ ?_
    | with_reducible refine im_to ?_
    | with_reducible refine call_to (fun _ (h : value_Put v3 ((ix l_0 i4).S) (ix l_0 (w64 (i4 + 1))) = some _) => value_Put_fe h) (fun r7 => ?_)
    | with_reducible refine call_to_q (fun _ (h : value_Put v3 ((ix l_0 i4).S) (ix l_0 (w64 (i4 + 1))) = some _) => value_Put_fe h) (fun _ => rfl) (fun r7 => ?_)
    | with_reducible refine call_to (fun _ (h : value_Put v3 ((ix l_0 i4).S) (ix l_0 (w64 (i4 + 1))) = some _) => (by refine FE_cast ?_ (value_Put_fe h); simp -implicitDefEqProofs only [go_sem, start, startE, resVs, resV, resC, allV, retK, Nat.reduceBEq, Nat.reduceAdd, Nat.reduceMul, Nat.reduceLeDiff, Nat.reduceEqDiff, Nat.reduceBNe, Nat.ble_eq, UInt8.reduceToNat])) (fun r7 => ?_)
    | with_reducible refine call_to_q (fun _ (h : value_Put v3 ((ix l_0 i4).S) (ix l_0 (w64 (i4 + 1))) = some _) => (by refine FE_cast ?_ (value_Put_fe h); simp -implicitDefEqProofs only [go_sem, start, startE, resVs, resV, resC, allV, retK, Nat.reduceBEq, Nat.reduceAdd, Nat.reduceMul, Nat.reduceLeDiff, Nat.reduceEqDiff, Nat.reduceBNe, Nat.ble_eq, UInt8.reduceToNat])) (fun _ => rfl) (fun r7 => ?_)
    | ((with_reducible refine iter_to (fun ((v3, i4) : api_Value × Int) => ⟨[(0, .sl false 4 l_0.length (flat l_0)), (2, .loc [.int .i64 0, .int .i64 0, .str (Str.mk []).b, .sl true 4 ([] : List api_Value).length (flat ([] : List api_Value))]), (3, .loc [.int .i64 v3.Kind, .int .i64 v3.N, .str v3.S.b, .sl false 4 v3.L.length (flat v3.L)]), (4, .int .i64 i4)], [], s⟩) ?_ ?_); (first | exact rfl | simp -implicitDefEqProofs only [go_sem, start, startE, resVs, resV, resC, allV, retK, Nat.reduceBEq, Nat.reduceAdd, Nat.reduceMul, Nat.reduceLeDiff, Nat.reduceEqDiff, Nat.reduceBNe, Nat.ble_eq, UInt8.reduceToNat]); rintro J ⟨v3, i4⟩)
    | ((with_reducible refine join_to (fun (v2 : api_Value) => ⟨[(2, .loc [.int .i64 0, .int .i64 0, .str (Str.mk []).b, .sl true 4 ([] : List api_Value).length (flat ([] : List api_Value))]), (3, .loc [.int .i64 v2.Kind, .int .i64 v2.N, .str v2.S.b, .sl false 4 v2.L.length (flat v2.L)])], [], s⟩) (fun J => ?_) ?_); rotate_left; rintro v2)
    | simp -implicitDefEqProofs only [go_sem, start, startE, resVs, resV, resC, allV, retK, Nat.reduceBEq, Nat.reduceAdd, Nat.reduceMul, Nat.reduceLeDiff, Nat.reduceEqDiff, Nat.reduceBNe, Nat.ble_eq, UInt8.reduceToNat])
theorem value_DictOf_fe {l_0} {s : Store} {r : api_Value}  (h : value_DictOf l_0 = some r) : FE Go.Proofs.Tryz.prog 29 [.sl false 4 l_0.length (flat l_0)] s [.agg [.int .i64 r.Kind, .int .i64 r.N, .str r.S.b, .sl false 4 r.L.length (flat r.L)]] s := value_DictOf_fn   ⟨r, h, rfl, rfl⟩
structure file_File where
  root_ : Int
  count_ : Int
  get_ : api_Doc
/-- catchword/file.Of -/
def ir_file_Of : IC :=
 (.seq (.reg none [i1 1 (.boxS 2 (.t 0)),
 i1 2 (.mov false (.c (.nilp)))] [1])
 (.seq (.reg none [i1 3 (.fieldAddr 1 (.t 1)),
 i1 4 (.loadR [.int .i64 0] false (.t 3)),
 i1 5 (.fieldAddr 0 (.t 1)),
 i1 6 (.loadR [.sl false 6 0 []] false (.t 5)),
 i1 7 (.len 0 (.t 6)),
 i1 8 (.makeFn 34 [] [(.t 1)]),
 i1 9 (.build [.int .i64 0, .int .i64 0, .nilf] [(0, 1, (.t 4)), (1, 1, (.t 7)), (2, 1, (.t 8))]),
 i1 10 (.boxS 3 (.t 9)),
 mv 2 10] [2])
 .ret))
def res_file_Of : List IRes := [⟨2, true, none⟩]
theorem is_file_Of : fnIs Go.Proofs.Tryz.prog 10 11 res_file_Of ir_file_Of = true := by kernel_rfl

theorem fnok_34 : (fnOK Go.Proofs.Tryz.prog 34 = true) = True := eq_true (by kernel_rfl)
def file_Of (d : api_Doc) : Option file_File := some ⟨d.Root, d.Objects.length, d⟩
theorem file_Of_fn {d : api_Doc} {s : Store} {Q : List AV → Store → Prop} (h : ok (file_Of d) fun r => ∀ N1, s N1 = none → ∀ N2, (s.set N1 (.cells [.sl false 6 r.get_.Objects.length (flat r.get_.Objects), .int .i64 r.get_.Root])) N2 = none →
    Q [.ref N2 0] ((s.set N1 (.cells [.sl false 6 r.get_.Objects.length (flat r.get_.Objects), .int .i64 r.get_.Root])).set N2 (.cells [.int .i64 r.root_, .int .i64 r.count_, .fn 34 [] [.ref N1 0]]))) :
    FN Go.Proofs.Tryz.prog 10 [.agg [.sl false 6 d.Objects.length (flat d.Objects), .int .i64 d.Root]] s Q := by
  refine FN.of (draw_ok mix) is_file_Of rfl (Nat.le_of_ble_eq_true rfl) ?_
  unfold file_Of at h
  rw [ok_some] at h
  rw [ir_file_Of, res_file_Of]
  simp -implicitDefEqProofs only [go_sem, start, startE, resVs, resV, resC, allV, retK, Nat.reduceBEq, Nat.reduceAdd, Nat.reduceMul, Nat.reduceLeDiff, Nat.reduceEqDiff, Nat.reduceBNe, Nat.ble_eq, UInt8.reduceToNat, fnok_34, set_at]
  exact h

structure tree_Leaf where
  Page : Int
  Path : (List Int)
  Given : api_Value
instance : Enc tree_Leaf := ⟨6, fun x => [.int .i64 x.Page, .sl false 1 x.Path.length (flat x.Path), .int .i64 x.Given.Kind, .int .i64 x.Given.N, .str x.Given.S.b, .sl false 4 x.Given.L.length (flat x.Given.L)], (tree_Leaf.mk 0 [] (api_Value.mk 0 0 (Str.mk []) [])), by decide, fun _ => rfl, fun _ => rfl⟩
@[go_sem] theorem cells_tree_Leaf (x : tree_Leaf) : Enc.cells x = [.int .i64 x.Page, .sl false 1 x.Path.length (flat x.Path), .int .i64 x.Given.Kind, .int .i64 x.Given.N, .str x.Given.S.b, .sl false 4 x.Given.L.length (flat x.Given.L)] := rfl
@[go_sem] theorem w_tree_Leaf : Enc.w tree_Leaf = 6 := rfl
@[go_sem] theorem pad_tree_Leaf (l : List tree_Leaf) (i : Int) : pad [.int .i64 0, .sl false 1 0 [], .int .i64 0, .int .i64 0, .str [], .sl false 4 0 []] (views (AB.sub (flat l) (i.toNat * 6) 6)) = [.int .i64 ((ix l i).Page), .sl false 1 ((ix l i).Path).length (flat ((ix l i).Path)), .int .i64 (((ix l i).Given).Kind), .int .i64 (((ix l i).Given).N), .str (((ix l i).Given).S).b, .sl false 4 (((ix l i).Given).L).length (flat (((ix l i).Given).L))] := by
  rw [← cells_tree_Leaf]; exact flat_pad _ 6 l i (by rw [cells_tree_Leaf]; rfl) rfl
@[go_sem] theorem mk_tree_Leaf (x : tree_Leaf) : tree_Leaf.mk x.Page x.Path x.Given = x := by cases x; rfl
structure reach_row where
  l_ : (List Int)
  in_ : (List (Int × Int))
def ek_Int_Int (k : Int) : AV := .int .i64 k
def ev_Int_Int (v : Int) : AV := .int .i64 v
theorem eq_Int_Int (a b : Int) : keyIs (ek_Int_Int a) (ek_Int_Int b) = (a == b) := keyIs_int a b
@[go_sem] theorem lk_Int_Int (ok : Bool) (m : (List (Int × Int))) (k : Int) : lookupO (.int .i64) (.int .i64 0) ok (.int .i64 k) (some (.map (encM ek_Int_Int ev_Int_Int m))) = .prt True (okV ok (.int .i64 (mget 0 m k)) (mhas m k)) :=
  lookupO_enc (ek := ek_Int_Int) (ev := ev_Int_Int) (z := 0) (fun _ => rfl) eq_Int_Int rfl (fun _ => rfl) (fun _ => rfl) ok m k
@[go_sem] theorem up_Int_Int (b : Nat) (σ : St) (d : Option Nat) (K : St → Prop) (m : (List (Int × Int))) (k : Int) (v : Int) : updO (.int .i64) b σ (.int .i64 k) (.int .i64 v) d K (some (.map (encM ek_Int_Int ev_Int_Int m))) = K ({ σ with s := σ.s.set b (.map (encM ek_Int_Int ev_Int_Int (mput m k v))) }.put d (.tup [])) :=
  updO_enc (ek := ek_Int_Int) (ev := ev_Int_Int) (fun _ => rfl) eq_Int_Int (fun _ => rfl) m k v rfl rfl
/-- (*catchword/reach.row).put -/
def reach_row_put (r_0 : reach_row) (l_1 : (List Int)) : Option (reach_row) :=
  iter (fun ((t1, o2) : Int × reach_row) =>
    if decide (t1 < (l_1.length : Int)) then
      jn (
        need (0 ≤ t1 ∧ t1 < l_1.length) <|
        if !(mhas o2.in_ (ix l_1 t1)) then
          need ((o2.l_.length + [ix l_1 t1].length) * 8 ≤ room) <|
          some (reach_row.mk (o2.l_ ++ [ix l_1 t1]) (mput o2.in_ (ix l_1 t1) (o2.l_.length : Int)))
        else
          some o2) fun (o7 : reach_row) =>
      some (.inl (w64 (t1 + 1), o7))
    else
      some (.inr o2)) (0, r_0)
def ir_reach_row_put : IC :=
 (.seq (.reg none [mt 8 1,
 i1 9 (.len 0 (.t 8)),
 i1 10 (.mov false (.c (.int .i64 0)))] [0, 8, 9, 10])
 (.block 0 (.loop [(0, false), (8, true), (9, false), (10, false)] (.seq (.reg none [i1 11 (.bin .lss (.t 10) (.t 9))] [0, 8, 9, 10, 11])
 (.seq (.cond (.t 11) .skip
 (.exit 0))
 (.join [(0, false), (8, true), (9, false), (10, false)] (.block 1 (.seq (.reg none [i1 12 (.indexAddr [.int .i64 0] (.t 8) (.t 10)),
 i1 13 (.load 1 false (.t 12)),
 mv 5 13] [0, 5, 8, 9, 10])
 (.seq (.reg none [mv 15 0,
 i1 16 (.nilCheck (.t 15)),
 i1 17 (.fieldAddr 1 (.t 16)),
 i1 18 (.loadR [.nilm] false (.t 17)),
 mv 19 5,
 i1 20 (.lookup (.int .i64) (.int .i64 0) true (.t 18) (.t 19)),
 i1 14 (.movT (.t 20)),
 i1 21 (.extract (.t 14) 0),
 i1 22 (.extract (.t 14) 1),
 mv 6 21,
 mv 7 22] [0, 5, 7, 8, 9, 10])
 (.seq (.reg none [mv 23 7,
 i1 24 (.un .not (.t 23))] [0, 5, 8, 9, 10, 24])
 (.cond (.t 24) (.seq (.reg (some 10) [mv 25 0,
 i1 26 (.nilCheck (.t 25)),
 i1 27 (.fieldAddr 1 (.t 26)),
 i1 28 (.loadR [.nilm] false (.t 27)),
 mv 29 5,
 mv 30 0,
 i1 31 (.nilCheck (.t 30)),
 i1 32 (.fieldAddr 0 (.t 31)),
 i1 33 (.loadR [.sl false 1 0 []] false (.t 32)),
 i1 34 (.len 0 (.t 33)),
 i0 (.mapUpdate (.int .i64) (.t 28) (.t 29) (.t 34))] [0, 5, 8, 9, 10])
 (.reg none [mv 35 0,
 mv 36 0,
 i1 37 (.nilCheck (.t 36)),
 i1 38 (.fieldAddr 0 (.t 37)),
 i1 39 (.loadD (.t 38)),
 mv 40 5,
 i1 41 (.buildSl 1 1 [.int .i64 0] [(0, 1, (.t 40))]),
 i1 42 (.append 1 8 (.t 39) (.t 41)),
 i1 43 (.nilCheck (.t 35)),
 i1 44 (.fieldAddr 0 (.t 43)),
 i0 (.store 1 (.t 44) (.t 42))] [0, 8, 9, 10]))
 .skip)))))
 (.reg none [i1 45 (.bin .add (.t 10) (.c (.int .i64 1))),
 mv 10 45] [0, 8, 9, 10])))))))
def res_reach_row_put : List IRes := []
theorem is_reach_row_put : fnIs Go.Proofs.Tryz.prog 32 46 res_reach_row_put ir_reach_row_put = true := by kernel_rfl
theorem reach_row_put_fn {r_0 l_1} {B0 B0_in_ : Nat} {s : Store} {Q : List AV → Store → Prop} (hB0 : s B0 = some (.cells [.sl true 1 r_0.l_.length (flat r_0.l_), .mp B0_in_])) (hB0_in_ : s B0_in_ = some (.map (encM ek_Int_Int ev_Int_Int r_0.in_))) (nB0B0_in_ : B0 ≠ B0_in_) : ok (reach_row_put r_0 l_1) (fun r => Q [] ((s.set B0 (.cells [.sl true 1 r.l_.length (flat r.l_), .mp B0_in_])).set B0_in_ (.map (encM ek_Int_Int ev_Int_Int r.in_)))) → FN Go.Proofs.Tryz.prog 32 [.ref B0 0, .sl false 1 l_1.length (flat l_1)] s Q := by
  have hS : s = ((s.set B0 (.cells [.sl true 1 r_0.l_.length (flat r_0.l_), .mp B0_in_])).set B0_in_ (.map (encM ek_Int_Int ev_Int_Int r_0.in_))) := by simp only [set_eq' hB0, set_eq' hB0_in_]
  rw [hS]
  intro h
  refine FN.of (draw_ok mix) is_reach_row_put rfl (Nat.le_of_ble_eq_true rfl) ?_
  revert h
  rw [ir_reach_row_put, res_reach_row_put, reach_row_put]
  repeat' (first
    | with_reducible exact tt_to
    | with_reducible refine and_to ?_ ?_
    | with_reducible refine im_to ?_
    | ((with_reducible refine join_to (fun (o7 : reach_row) => ⟨[(0, .ref B0 0), (8, .sl false 1 l_1.length (flat l_1)), (9, .int .i64 (l_1.length : Int)), (10, .int .i64 t1)], [], ((s.set B0 (.cells [.sl true 1 o7.l_.length (flat o7.l_), .mp B0_in_])).set B0_in_ (.map (encM ek_Int_Int ev_Int_Int o7.in_)))⟩) (fun J => ?_) ?_); rotate_left; rintro o7)
    | ((with_reducible refine iter_to (fun ((t1, o2) : Int × reach_row) => ⟨[(0, .ref B0 0), (8, .sl false 1 l_1.length (flat l_1)), (9, .int .i64 (l_1.length : Int)), (10, .int .i64 t1)], [], ((s.set B0 (.cells [.sl true 1 o2.l_.length (flat o2.l_), .mp B0_in_])).set B0_in_ (.map (encM ek_Int_Int ev_Int_Int o2.in_)))⟩) ?_ ?_); (first | exact rfl | simp -implicitDefEqProofs only [go_sem, start, startE, resVs, resV, resC, allV, retK, Nat.reduceBEq, Nat.reduceAdd, Nat.reduceMul, Nat.reduceLeDiff, Nat.reduceEqDiff, Nat.reduceBNe, Nat.ble_eq, UInt8.reduceToNat, set_ne nB0B0_in_, set_ne nB0B0_in_.symm, set_comm nB0B0_in_]); rintro J ⟨t1, o2⟩)
    | simp -implicitDefEqProofs only [go_sem, start, startE, resVs, resV, resC, allV, retK, Nat.reduceBEq, Nat.reduceAdd, Nat.reduceMul, Nat.reduceLeDiff, Nat.reduceEqDiff, Nat.reduceBNe, Nat.ble_eq, UInt8.reduceToNat, set_ne nB0B0_in_, set_ne nB0B0_in_.symm, set_comm nB0B0_in_])
/-- (*catchword/file.File).is -/
def file_File_is (f_0 : file_File) : Option (Bool) :=
  some (true || false)
def ir_file_File_is : IC :=
 (.seq (.reg none [i1 2 (.mov false (.c (.bool false)))] [0])
 (.seq (.reg none [mv 3 0,
 i1 4 (.eqP true (.t 3) (.c (.nilp))),
 mv 5 4,
 mvg 6 0 5 true,
 i1g 7 5 true (.nilCheck (.t 6)),
 i1g 8 5 true (.fieldAddr 2 (.t 7)),
 i1g 9 5 true (.loadR [.nilf] false (.t 8)),
 i1g 10 5 true (.eqF true (.t 9)),
 i1 11 (.pick (.t 5) (.t 10) (.c (.bool false))),
 mv 2 11] [2])
 .ret))
def res_file_File_is : List IRes := [⟨2, true, none⟩]
theorem is_file_File_is : fnIs Go.Proofs.Tryz.prog 58 12 res_file_File_is ir_file_File_is = true := by kernel_rfl
theorem file_File_is_fn {f_0} {B0 B0_get_ : Nat} {s : Store} {Q : List AV → Store → Prop} (hB0 : s B0 = some (.cells [.int .i64 f_0.root_, .int .i64 f_0.count_, .fn 34 [] [.ref B0_get_ 0]])) (hB0_get_ : s B0_get_ = some (.cells [.sl false 6 f_0.get_.Objects.length (flat f_0.get_.Objects), .int .i64 f_0.get_.Root])) (nB0B0_get_ : B0 ≠ B0_get_) : ok (file_File_is f_0) (fun r => Q [.bool r] s) → FN Go.Proofs.Tryz.prog 58 [.ref B0 0] s Q := by
  have hS : s = ((s.set B0 (.cells [.int .i64 f_0.root_, .int .i64 f_0.count_, .fn 34 [] [.ref B0_get_ 0]])).set B0_get_ (.cells [.sl false 6 f_0.get_.Objects.length (flat f_0.get_.Objects), .int .i64 f_0.get_.Root])) := by simp only [set_eq' hB0, set_eq' hB0_get_]
  rw [hS]
  intro h
  refine FN.of (draw_ok mix) is_file_File_is rfl (Nat.le_of_ble_eq_true rfl) ?_
  revert h
  rw [ir_file_File_is, res_file_File_is, file_File_is]
  repeat' (first
    | with_reducible exact tt_to
    | with_reducible refine and_to ?_ ?_
    | with_reducible refine im_to ?_
    | simp -implicitDefEqProofs only [go_sem, start, startE, resVs, resV, resC, allV, retK, Nat.reduceBEq, Nat.reduceAdd, Nat.reduceMul, Nat.reduceLeDiff, Nat.reduceEqDiff, Nat.reduceBNe, Nat.ble_eq, UInt8.reduceToNat, set_ne nB0B0_get_, set_ne nB0B0_get_.symm, set_comm nB0B0_get_])
theorem file_File_is_fe {f_0} {B0 B0_get_ : Nat} {s : Store} {r : Bool} (hB0 : s B0 = some (.cells [.int .i64 f_0.root_, .int .i64 f_0.count_, .fn 34 [] [.ref B0_get_ 0]])) (hB0_get_ : s B0_get_ = some (.cells [.sl false 6 f_0.get_.Objects.length (flat f_0.get_.Objects), .int .i64 f_0.get_.Root])) (nB0B0_get_ : B0 ≠ B0_get_) (h : file_File_is f_0 = some r) : FE Go.Proofs.Tryz.prog 58 [.ref B0 0] s [.bool r] s := file_File_is_fn hB0 hB0_get_ nB0B0_get_ ⟨r, h, rfl, rfl⟩
/-- catchword/file.Of$1 -/
def file_Of_1 (n_0 : Int) (c_1 : api_Doc) : Option (api_Object × Int × Int) :=
  if (decide (n_0 < 1)) || (decide (n_0 > (c_1.Objects.length : Int))) then
    some ((api_Object.mk (api_Value.mk 0 0 (Str.mk []) ([] : List api_Value)) false (Str.mk [])), 0, 0)
  else
    need (0 ≤ w64 (n_0 - 1) ∧ w64 (n_0 - 1) < c_1.Objects.length) <|
    some (ix c_1.Objects (w64 (n_0 - 1)), 0, 0)
def ir_file_Of_1 : IC :=
 (.seq (.reg none [i1 3 (.allocL [.int .i64 0, .int .i64 0, .str [], .sl true 4 0 [], .bool false, .str []]),
 i1 4 (.mov false (.c (.int .i64 0))),
 i1 5 (.mov false (.c (.int .i64 0)))] [0, 1, 3])
 (.seq (.seq (.reg none [mv 6 0,
 i1 7 (.bin .lss (.t 6) (.c (.int .i64 1))),
 mv 8 7,
 mvg 9 0 8 false,
 i1g 10 8 false (.fieldAddr 0 (.t 1)),
 i1g 11 8 false (.loadR [.sl false 6 0 []] false (.t 10)),
 i1g 12 8 false (.len 0 (.t 11)),
 i1g 13 8 false (.bin .gtr (.t 9) (.t 12)),
 i1 14 (.pick (.t 8) (.c (.bool true)) (.t 13))] [0, 1, 3, 14])
 (.cond (.t 14) (.seq (.reg none [i1 15 (.build [.int .i64 0, .int .i64 0, .str [], .sl true 4 0 [], .bool false, .str []] []),
 i0 (.store 6 (.t 3) (.t 15)),
 i1 4 (.mov false (.c (.int .i64 0))),
 i1 5 (.mov false (.c (.int .i64 0)))] [3, 4, 5])
 .ret)
 .skip))
 (.seq (.reg none [i1 16 (.fieldAddr 0 (.t 1)),
 i1 17 (.loadR [.sl false 6 0 []] false (.t 16)),
 mv 18 0,
 i1 19 (.bin .sub (.t 18) (.c (.int .i64 1))),
 i1 20 (.indexAddr [.int .i64 0, .int .i64 0, .str [], .sl false 4 0 [], .bool false, .str []] (.t 17) (.t 19)),
 i1 21 (.load 6 true (.t 20)),
 i0 (.store 6 (.t 3) (.t 21)),
 i1 4 (.mov false (.c (.int .i64 0))),
 i1 5 (.mov false (.c (.int .i64 0)))] [3, 4, 5])
 .ret)))
def res_file_Of_1 : List IRes := [⟨3, false, some (6, true)⟩, ⟨4, true, none⟩, ⟨5, true, none⟩]
theorem is_file_Of_1 : fnIs Go.Proofs.Tryz.prog 34 22 res_file_Of_1 ir_file_Of_1 = true := by kernel_rfl
theorem file_Of_1_fn {n_0 c_1} {B1 : Nat} {s : Store} {Q : List AV → Store → Prop} (hB1 : s B1 = some (.cells [.sl false 6 c_1.Objects.length (flat c_1.Objects), .int .i64 c_1.Root])) : ok (file_Of_1 n_0 c_1) (fun r => Q [.agg [.int .i64 r.1.V.Kind, .int .i64 r.1.V.N, .str r.1.V.S.b, .sl false 4 r.1.V.L.length (flat r.1.V.L), .bool r.1.Stream, .str r.1.Data.b], .int .i64 r.2.1, .int .i64 r.2.2] s) → FN Go.Proofs.Tryz.prog 34 [.int .i64 n_0, .ref B1 0] s Q := by
  have hS : s = (s.set B1 (.cells [.sl false 6 c_1.Objects.length (flat c_1.Objects), .int .i64 c_1.Root])) := by simp only [set_eq' hB1]
  rw [hS]
  intro h
  refine FN.of (draw_ok mix) is_file_Of_1 rfl (Nat.le_of_ble_eq_true rfl) ?_
  revert h
  rw [ir_file_Of_1, res_file_Of_1, file_Of_1]
  repeat' (first
    | with_reducible exact tt_to
    | with_reducible refine and_to ?_ ?_
    | with_reducible refine im_to ?_
    | simp -implicitDefEqProofs only [go_sem, start, startE, resVs, resV, resC, allV, retK, Nat.reduceBEq, Nat.reduceAdd, Nat.reduceMul, Nat.reduceLeDiff, Nat.reduceEqDiff, Nat.reduceBNe, Nat.ble_eq, UInt8.reduceToNat])
theorem file_Of_1_fe {n_0 c_1} {B1 : Nat} {s : Store} {r : api_Object × Int × Int} (hB1 : s B1 = some (.cells [.sl false 6 c_1.Objects.length (flat c_1.Objects), .int .i64 c_1.Root])) (h : file_Of_1 n_0 c_1 = some r) : FE Go.Proofs.Tryz.prog 34 [.int .i64 n_0, .ref B1 0] s [.agg [.int .i64 r.1.V.Kind, .int .i64 r.1.V.N, .str r.1.V.S.b, .sl false 4 r.1.V.L.length (flat r.1.V.L), .bool r.1.Stream, .str r.1.Data.b], .int .i64 r.2.1, .int .i64 r.2.2] s := file_Of_1_fn hB1  ⟨r, h, rfl, rfl⟩
/-- (*catchword/file.File).Get -/
def file_File_Get (f_0 : file_File) (n_1 : Int) : Option (api_Object × Int × Int) :=
  bnd (file_File_is f_0) fun r1 =>
  if !r1 then
    some ((api_Object.mk (api_Value.mk 0 0 (Str.mk []) ([] : List api_Value)) false (Str.mk [])), 0, 1)
  else
    bnd (file_Of_1 n_1 f_0.get_) fun r2 =>
    some (r2.1, r2.2.1, r2.2.2)
def ir_file_File_Get : IC :=
 (.seq (.reg none [i1 4 (.allocL [.int .i64 0, .int .i64 0, .str [], .sl true 4 0 [], .bool false, .str []]),
 i1 5 (.mov false (.c (.int .i64 0))),
 i1 6 (.mov false (.c (.int .i64 0)))] [0, 1, 4])
 (.seq (.seq (.reg none [mv 7 0,
 i1 8 (.call 58 [(.t 7)]),
 i1 9 (.un .not (.t 8))] [0, 1, 4, 9])
 (.cond (.t 9) (.seq (.reg none [i1 10 (.build [.int .i64 0, .int .i64 0, .str [], .sl true 4 0 [], .bool false, .str []] []),
 i0 (.store 6 (.t 4) (.t 10)),
 i1 5 (.mov false (.c (.int .i64 0))),
 i1 6 (.mov false (.c (.int .i64 1)))] [4, 5, 6])
 .ret)
 .skip))
 (.seq (.reg none [mv 11 0,
 i1 12 (.nilCheck (.t 11)),
 i1 13 (.fieldAddr 2 (.t 12)),
 i1 14 (.loadR [.nilf] false (.t 13)),
 mv 15 1,
 i1 16 (.callv (.t 14) [(.t 15)]),
 i1 17 (.extract (.t 16) 0),
 i1 18 (.extract (.t 16) 1),
 i1 19 (.extract (.t 16) 2),
 i0 (.store 6 (.t 4) (.t 17)),
 mv 5 18,
 mv 6 19] [4, 5, 6])
 .ret)))
def res_file_File_Get : List IRes := [⟨4, false, some (6, true)⟩, ⟨5, true, none⟩, ⟨6, true, none⟩]
theorem is_file_File_Get : fnIs Go.Proofs.Tryz.prog 33 20 res_file_File_Get ir_file_File_Get = true := by kernel_rfl
theorem file_File_Get_fn {f_0 n_1} {B0 B0_get_ : Nat} {s : Store} {Q : List AV → Store → Prop} (hB0 : s B0 = some (.cells [.int .i64 f_0.root_, .int .i64 f_0.count_, .fn 34 [] [.ref B0_get_ 0]])) (hB0_get_ : s B0_get_ = some (.cells [.sl false 6 f_0.get_.Objects.length (flat f_0.get_.Objects), .int .i64 f_0.get_.Root])) (nB0B0_get_ : B0 ≠ B0_get_) : ok (file_File_Get f_0 n_1) (fun r => Q [.agg [.int .i64 r.1.V.Kind, .int .i64 r.1.V.N, .str r.1.V.S.b, .sl false 4 r.1.V.L.length (flat r.1.V.L), .bool r.1.Stream, .str r.1.Data.b], .int .i64 r.2.1, .int .i64 r.2.2] s) → FN Go.Proofs.Tryz.prog 33 [.ref B0 0, .int .i64 n_1] s Q := by
  have hS : s = ((s.set B0 (.cells [.int .i64 f_0.root_, .int .i64 f_0.count_, .fn 34 [] [.ref B0_get_ 0]])).set B0_get_ (.cells [.sl false 6 f_0.get_.Objects.length (flat f_0.get_.Objects), .int .i64 f_0.get_.Root])) := by simp only [set_eq' hB0, set_eq' hB0_get_]
  rw [hS]
  intro h
  refine FN.of (draw_ok mix) is_file_File_Get rfl (Nat.le_of_ble_eq_true rfl) ?_
  revert h
  rw [ir_file_File_Get, res_file_File_Get, file_File_Get]
  repeat' (first
    | with_reducible exact tt_to
    | with_reducible refine and_to ?_ ?_
    | with_reducible refine im_to ?_
    | with_reducible refine call_to (fun _ (h : file_File_is f_0 = some _) => file_File_is_fe (B0 := B0) (B0_get_ := B0_get_) (by simp -implicitDefEqProofs only [go_sem, start, startE, resVs, resV, resC, allV, retK, Nat.reduceBEq, Nat.reduceAdd, Nat.reduceMul, Nat.reduceLeDiff, Nat.reduceEqDiff, Nat.reduceBNe, Nat.ble_eq, UInt8.reduceToNat, set_ne nB0B0_get_, set_ne nB0B0_get_.symm, set_comm nB0B0_get_, fnok_34] <;> simp only [encM_nil]) (by simp -implicitDefEqProofs only [go_sem, start, startE, resVs, resV, resC, allV, retK, Nat.reduceBEq, Nat.reduceAdd, Nat.reduceMul, Nat.reduceLeDiff, Nat.reduceEqDiff, Nat.reduceBNe, Nat.ble_eq, UInt8.reduceToNat, set_ne nB0B0_get_, set_ne nB0B0_get_.symm, set_comm nB0B0_get_, fnok_34] <;> simp only [encM_nil]) nB0B0_get_ h) (fun r1 => ?_)
    | with_reducible refine call_to_q (fun _ (h : file_File_is f_0 = some _) => file_File_is_fe (B0 := B0) (B0_get_ := B0_get_) (by simp -implicitDefEqProofs only [go_sem, start, startE, resVs, resV, resC, allV, retK, Nat.reduceBEq, Nat.reduceAdd, Nat.reduceMul, Nat.reduceLeDiff, Nat.reduceEqDiff, Nat.reduceBNe, Nat.ble_eq, UInt8.reduceToNat, set_ne nB0B0_get_, set_ne nB0B0_get_.symm, set_comm nB0B0_get_, fnok_34] <;> simp only [encM_nil]) (by simp -implicitDefEqProofs only [go_sem, start, startE, resVs, resV, resC, allV, retK, Nat.reduceBEq, Nat.reduceAdd, Nat.reduceMul, Nat.reduceLeDiff, Nat.reduceEqDiff, Nat.reduceBNe, Nat.ble_eq, UInt8.reduceToNat, set_ne nB0B0_get_, set_ne nB0B0_get_.symm, set_comm nB0B0_get_, fnok_34] <;> simp only [encM_nil]) nB0B0_get_ h) (fun _ => rfl) (fun r1 => ?_)
    | with_reducible refine call_to (fun _ (h : file_Of_1 n_1 f_0.get_ = some _) => file_Of_1_fe (B1 := B0_get_) (by simp -implicitDefEqProofs only [go_sem, start, startE, resVs, resV, resC, allV, retK, Nat.reduceBEq, Nat.reduceAdd, Nat.reduceMul, Nat.reduceLeDiff, Nat.reduceEqDiff, Nat.reduceBNe, Nat.ble_eq, UInt8.reduceToNat, set_ne nB0B0_get_, set_ne nB0B0_get_.symm, set_comm nB0B0_get_, fnok_34] <;> simp only [encM_nil])  h) (fun r2 => ?_)
    | with_reducible refine call_to_q (fun _ (h : file_Of_1 n_1 f_0.get_ = some _) => file_Of_1_fe (B1 := B0_get_) (by simp -implicitDefEqProofs only [go_sem, start, startE, resVs, resV, resC, allV, retK, Nat.reduceBEq, Nat.reduceAdd, Nat.reduceMul, Nat.reduceLeDiff, Nat.reduceEqDiff, Nat.reduceBNe, Nat.ble_eq, UInt8.reduceToNat, set_ne nB0B0_get_, set_ne nB0B0_get_.symm, set_comm nB0B0_get_, fnok_34] <;> simp only [encM_nil])  h) (fun _ => rfl) (fun r2 => ?_)
    | simp -implicitDefEqProofs only [go_sem, start, startE, resVs, resV, resC, allV, retK, Nat.reduceBEq, Nat.reduceAdd, Nat.reduceMul, Nat.reduceLeDiff, Nat.reduceEqDiff, Nat.reduceBNe, Nat.ble_eq, UInt8.reduceToNat, set_ne nB0B0_get_, set_ne nB0B0_get_.symm, set_comm nB0B0_get_, fnok_34])
theorem file_File_Get_fe {f_0 n_1} {B0 B0_get_ : Nat} {s : Store} {r : api_Object × Int × Int} (hB0 : s B0 = some (.cells [.int .i64 f_0.root_, .int .i64 f_0.count_, .fn 34 [] [.ref B0_get_ 0]])) (hB0_get_ : s B0_get_ = some (.cells [.sl false 6 f_0.get_.Objects.length (flat f_0.get_.Objects), .int .i64 f_0.get_.Root])) (nB0B0_get_ : B0 ≠ B0_get_) (h : file_File_Get f_0 n_1 = some r) : FE Go.Proofs.Tryz.prog 33 [.ref B0 0, .int .i64 n_1] s [.agg [.int .i64 r.1.V.Kind, .int .i64 r.1.V.N, .str r.1.V.S.b, .sl false 4 r.1.V.L.length (flat r.1.V.L), .bool r.1.Stream, .str r.1.Data.b], .int .i64 r.2.1, .int .i64 r.2.2] s := file_File_Get_fn hB0 hB0_get_ nB0B0_get_ ⟨r, h, rfl, rfl⟩
def ek_Int_Bool (k : Int) : AV := .int .i64 k
def ev_Int_Bool (v : Bool) : AV := .bool v
theorem eq_Int_Bool (a b : Int) : keyIs (ek_Int_Bool a) (ek_Int_Bool b) = (a == b) := keyIs_int a b
@[go_sem] theorem lk_Int_Bool (ok : Bool) (m : (List (Int × Bool))) (k : Int) : lookupO (.int .i64) (.bool false) ok (.int .i64 k) (some (.map (encM ek_Int_Bool ev_Int_Bool m))) = .prt True (okV ok (.bool (mget false m k)) (mhas m k)) :=
  lookupO_enc (ek := ek_Int_Bool) (ev := ev_Int_Bool) (z := false) (fun _ => rfl) eq_Int_Bool rfl (fun _ => rfl) (fun _ => rfl) ok m k
@[go_sem] theorem up_Int_Bool (b : Nat) (σ : St) (d : Option Nat) (K : St → Prop) (m : (List (Int × Bool))) (k : Int) (v : Bool) : updO (.int .i64) b σ (.int .i64 k) (.bool v) d K (some (.map (encM ek_Int_Bool ev_Int_Bool m))) = K ({ σ with s := σ.s.set b (.map (encM ek_Int_Bool ev_Int_Bool (mput m k v))) }.put d (.tup [])) :=
  updO_enc (ek := ek_Int_Bool) (ev := ev_Int_Bool) (fun _ => rfl) eq_Int_Bool (fun _ => rfl) m k v rfl rfl
/-- catchword/value.Refs$1 -/
def value_Refs_1 (x_0 : api_Value) (c_1 : (List (Int × Bool))) (c_2 : (List Int)) : Option (Bool × (List (Int × Bool)) × (List Int)) :=
  jn (
    if (x_0.Kind == 8) && (!(mget false c_1 x_0.N)) then
      need ((c_2.length + [x_0.N].length) * 8 ≤ room) <|
      some (mput c_1 x_0.N true, c_2 ++ [x_0.N])
    else
      some (c_1, c_2)) fun ((o1, o2) : (List (Int × Bool)) × (List Int)) =>
  some (true, o1, o2)
def ir_value_Refs_1 : IC :=
 (.seq (.reg none [i1 3 (.boxL 4 (.t 0)),
 i1 4 (.mov false (.c (.bool false)))] [1, 2, 3])
 (.join [] (.seq (.reg (some 8) [i1 5 (.fieldAddr 0 (.t 3)),
 i1 6 (.load 1 false (.t 5)),
 i1 7 (.bin .eql (.t 6) (.c (.int .i64 8))),
 mv 8 7,
 i1g 9 8 true (.loadR [.nilm] false (.t 1)),
 i1g 10 8 true (.fieldAddr 1 (.t 3)),
 i1g 11 8 true (.load 1 false (.t 10)),
 i1g 12 8 true (.lookup (.int .i64) (.bool false) false (.t 9) (.t 11)),
 i1g 13 8 true (.un .not (.t 12)),
 i1 14 (.pick (.t 8) (.t 13) (.c (.bool false)))] [1, 2, 3, 14])
 (.cond (.t 14) (.seq (.reg none [i1 15 (.loadR [.nilm] false (.t 1)),
 i1 16 (.fieldAddr 1 (.t 3)),
 i1 17 (.load 1 false (.t 16)),
 i0 (.mapUpdate (.int .i64) (.t 15) (.t 17) (.c (.bool true)))] [2, 3])
 (.reg none [i1 18 (.loadD (.t 2)),
 i1 19 (.fieldAddr 1 (.t 3)),
 i1 20 (.load 1 false (.t 19)),
 i1 21 (.buildSl 1 1 [.int .i64 0] [(0, 1, (.t 20))]),
 i1 22 (.append 1 8 (.t 18) (.t 21)),
 i0 (.store 1 (.t 2) (.t 22))] []))
 .skip))
 (.seq (.reg none [i1 4 (.mov false (.c (.bool true)))] [4])
 .ret)))
def res_value_Refs_1 : List IRes := [⟨4, true, none⟩]
theorem is_value_Refs_1 : fnIs Go.Proofs.Tryz.prog 81 23 res_value_Refs_1 ir_value_Refs_1 = true := by kernel_rfl
theorem value_Refs_1_fn {x_0 c_1 c_2} {B1 B1_m B2 : Nat} {s : Store} {Q : List AV → Store → Prop} (hB1 : s B1 = some (.cells [.mp B1_m])) (hB1_m : s B1_m = some (.map (encM ek_Int_Bool ev_Int_Bool c_1))) (hB2 : s B2 = some (.cells [.sl true 1 c_2.length (flat c_2)])) (nB1B1_m : B1 ≠ B1_m) (nB1B2 : B1 ≠ B2) (nB1_mB2 : B1_m ≠ B2) : ok (value_Refs_1 x_0 c_1 c_2) (fun r => Q [.bool r.1] (((s.set B1 (.cells [.mp B1_m])).set B1_m (.map (encM ek_Int_Bool ev_Int_Bool r.2.1))).set B2 (.cells [.sl true 1 r.2.2.length (flat r.2.2)]))) → FN Go.Proofs.Tryz.prog 81 [.agg [.int .i64 x_0.Kind, .int .i64 x_0.N, .str x_0.S.b, .sl false 4 x_0.L.length (flat x_0.L)], .ref B1 0, .ref B2 0] s Q := by
  have hS : s = (((s.set B1 (.cells [.mp B1_m])).set B1_m (.map (encM ek_Int_Bool ev_Int_Bool c_1))).set B2 (.cells [.sl true 1 c_2.length (flat c_2)])) := by simp only [set_eq' hB1, set_eq' hB1_m, set_eq' hB2]
  rw [hS]
  intro h
  refine FN.of (draw_ok mix) is_value_Refs_1 rfl (Nat.le_of_ble_eq_true rfl) ?_
  revert h
  rw [ir_value_Refs_1, res_value_Refs_1, value_Refs_1]
  repeat' (first
    | with_reducible exact tt_to
    | with_reducible refine and_to ?_ ?_
    | with_reducible refine im_to ?_
    | ((with_reducible refine join_to (fun ((o1, o2) : (List (Int × Bool)) × (List Int)) => ⟨[], [], (((s.set B1 (.cells [.mp B1_m])).set B1_m (.map (encM ek_Int_Bool ev_Int_Bool o1))).set B2 (.cells [.sl true 1 o2.length (flat o2)]))⟩) (fun J => ?_) ?_); rotate_left; rintro ⟨o1, o2⟩)
    | simp -implicitDefEqProofs only [go_sem, start, startE, resVs, resV, resC, allV, retK, Nat.reduceBEq, Nat.reduceAdd, Nat.reduceMul, Nat.reduceLeDiff, Nat.reduceEqDiff, Nat.reduceBNe, Nat.ble_eq, UInt8.reduceToNat, set_ne nB1B1_m, set_ne nB1B1_m.symm, set_comm nB1B1_m, set_ne nB1B2, set_ne nB1B2.symm, set_comm nB1B2, set_ne nB1_mB2, set_ne nB1_mB2.symm, set_comm nB1_mB2])
/-- catchword/value.walk -/
def value_walk : Nat → api_Value → (List (Int × Bool)) → (List Int) → Option (Bool × (List (Int × Bool)) × (List Int))
  | 0, _, _, _ => none
  | fuel + 1, v_0, c1_0, c1_1 =>
    bnd (value_Refs_1 v_0 c1_0 c1_1) fun r1 =>
    if !r1.1 then
      some (false, r1.2.1, r1.2.2)
    else
      if (v_0.Kind != 6) && (v_0.Kind != 7) then
        some (true, r1.2.1, r1.2.2)
      else
        jnS (
          bndS (
            iter (fun ((t7, o8, o9) : Int × (List (Int × Bool)) × (List Int)) =>
              if decide (t7 < (v_0.L.length : Int)) then
                need (0 ≤ t7 ∧ t7 < v_0.L.length) <|
                bnd (value_walk fuel (ix v_0.L t7) o8 o9) fun r15 =>
                if !r15.1 then
                  some (.inr (.inr (false, r15.2.1, r15.2.2)))
                else
                  some (.inl (w64 (t7 + 1), r15.2.1, r15.2.2))
              else
                some (.inr (.inl (o8, o9)))) (0, r1.2.1, r1.2.2)) (fun ((o10, o11) : (List (Int × Bool)) × (List Int)) =>
            some (.inl (o10, o11)))
          (fun ((t12, o13, o14) : Bool × (List (Int × Bool)) × (List Int)) => some (.inr (t12, o13, o14)))) (fun ((o2, o3) : (List (Int × Bool)) × (List Int)) =>
          some (true, o2, o3))
        (fun ((t4, o5, o6) : Bool × (List (Int × Bool)) × (List Int)) => some (t4, o5, o6))
theorem fnok_81 : (fnOK Go.Proofs.Tryz.prog 81 = true) = True := eq_true (by kernel_rfl)
def ir_value_walk : IC :=
 (.seq (.reg none [i1 2 (.boxL 4 (.t 0)),
 i1 4 (.mov false (.c (.bool false)))] [1, 2])
 (.seq (.seq (.reg none [mv 7 1,
 i1 8 (.load 4 true (.t 2)),
 i1 9 (.callv (.t 7) [(.t 8)]),
 i1 10 (.un .not (.t 9))] [1, 2, 10])
 (.cond (.t 10) (.seq (.reg none [i1 4 (.mov false (.c (.bool false)))] [4])
 .ret)
 .skip))
 (.seq (.seq (.reg none [i1 11 (.fieldAddr 0 (.t 2)),
 i1 12 (.load 1 false (.t 11)),
 i1 13 (.bin .neq (.t 12) (.c (.int .i64 6))),
 mv 14 13,
 i1g 15 14 true (.fieldAddr 0 (.t 2)),
 i1g 16 14 true (.load 1 false (.t 15)),
 i1g 17 14 true (.bin .neq (.t 16) (.c (.int .i64 7))),
 i1 18 (.pick (.t 14) (.t 17) (.c (.bool false)))] [1, 2, 18])
 (.cond (.t 18) (.seq (.reg none [i1 4 (.mov false (.c (.bool true)))] [4])
 .ret)
 .skip))
 (.join [] (.seq (.reg none [i1 19 (.fieldAddr 3 (.t 2)),
 i1 20 (.load 1 false (.t 19)),
 i1 21 (.len 0 (.t 20)),
 i1 22 (.mov false (.c (.int .i64 0)))] [1, 20, 21, 22])
 (.block 0 (.loop [(1, false), (20, true), (21, false), (22, false)] (.seq (.reg none [i1 23 (.bin .lss (.t 22) (.t 21))] [1, 20, 21, 22, 23])
 (.seq (.cond (.t 23) .skip
 (.exit 0))
 (.seq (.block 1 (.seq (.reg none [i1 24 (.indexAddr [.int .i64 0, .int .i64 0, .str [], .sl false 4 0 []] (.t 20) (.t 22)),
 i1 25 (.load 4 true (.t 24)),
 i1 6 (.allocL [.int .i64 0, .int .i64 0, .str [], .sl true 4 0 []]),
 i0 (.store 4 (.t 6) (.t 25))] [1, 6, 20, 21, 22])
 (.seq (.reg none [i1 26 (.load 4 true (.t 6)),
 mv 27 1,
 i1 28 (.call 80 [(.t 26), (.t 27)]),
 i1 29 (.un .not (.t 28))] [1, 20, 21, 22, 29])
 (.cond (.t 29) (.seq (.reg none [i1 4 (.mov false (.c (.bool false)))] [4])
 .ret)
 .skip))))
 (.reg none [i1 30 (.bin .add (.t 22) (.c (.int .i64 1))),
 mv 22 30] [1, 20, 21, 22])))))))
 (.seq (.reg none [i1 4 (.mov false (.c (.bool true)))] [4])
 .ret)))))
def res_value_walk : List IRes := [⟨4, true, none⟩]
theorem is_value_walk : fnIs Go.Proofs.Tryz.prog 80 31 res_value_walk ir_value_walk = true := by kernel_rfl
theorem value_walk_fn {fuel : Nat} : ∀ {v_0 : api_Value} {c1_0 : (List (Int × Bool))} {c1_1 : (List Int)} {B1_0 B1_0_m B1_1 : Nat} {s : Store} {Q : List AV → Store → Prop} (hB1_0 : s B1_0 = some (.cells [.mp B1_0_m])) (hB1_0_m : s B1_0_m = some (.map (encM ek_Int_Bool ev_Int_Bool c1_0))) (hB1_1 : s B1_1 = some (.cells [.sl true 1 c1_1.length (flat c1_1)])) (nB1_0B1_0_m : B1_0 ≠ B1_0_m) (nB1_0B1_1 : B1_0 ≠ B1_1) (nB1_0_mB1_1 : B1_0_m ≠ B1_1), ok (value_walk fuel v_0 c1_0 c1_1) (fun r => Q [.bool r.1] (((s.set B1_0 (.cells [.mp B1_0_m])).set B1_0_m (.map (encM ek_Int_Bool ev_Int_Bool r.2.1))).set B1_1 (.cells [.sl true 1 r.2.2.length (flat r.2.2)]))) → FN Go.Proofs.Tryz.prog 80 [.agg [.int .i64 v_0.Kind, .int .i64 v_0.N, .str v_0.S.b, .sl false 4 v_0.L.length (flat v_0.L)], .fn 81 [] [.ref B1_0 0, .ref B1_1 0]] s Q := by
  induction fuel with
  | zero => intros; rename_i h; rw [value_walk] at h; exact absurd h (by rw [ok_none]; exact fun h => h)
  | succ fuel ih =>
  intro v_0 c1_0 c1_1 B1_0 B1_0_m B1_1 s Q hB1_0 hB1_0_m hB1_1 nB1_0B1_0_m nB1_0B1_1 nB1_0_mB1_1
  have hS : s = (((s.set B1_0 (.cells [.mp B1_0_m])).set B1_0_m (.map (encM ek_Int_Bool ev_Int_Bool c1_0))).set B1_1 (.cells [.sl true 1 c1_1.length (flat c1_1)])) := by simp only [set_eq' hB1_0, set_eq' hB1_0_m, set_eq' hB1_1]
  rw [hS]
  intro h
  refine FN.of (draw_ok mix) is_value_walk rfl (Nat.le_of_ble_eq_true rfl) ?_
  revert h
  rw [ir_value_walk, res_value_walk, value_walk]
  repeat' (first
    | with_reducible exact tt_to
    | with_reducible refine and_to ?_ ?_
    | with_reducible refine im_to ?_
    | with_reducible refine fun hh => value_Refs_1_fn (B1 := B1_0) (B1_m := B1_0_m) (B2 := B1_1) (by simp -implicitDefEqProofs only [go_sem, start, startE, resVs, resV, resC, allV, retK, Nat.reduceBEq, Nat.reduceAdd, Nat.reduceMul, Nat.reduceLeDiff, Nat.reduceEqDiff, Nat.reduceBNe, Nat.ble_eq, UInt8.reduceToNat, set_ne nB1_0B1_0_m, set_ne nB1_0B1_0_m.symm, set_comm nB1_0B1_0_m, set_ne nB1_0B1_1, set_ne nB1_0B1_1.symm, set_comm nB1_0B1_1, set_ne nB1_0_mB1_1, set_ne nB1_0_mB1_1.symm, set_comm nB1_0_mB1_1, fnok_81] <;> simp only [encM_nil]) (by simp -implicitDefEqProofs only [go_sem, start, startE, resVs, resV, resC, allV, retK, Nat.reduceBEq, Nat.reduceAdd, Nat.reduceMul, Nat.reduceLeDiff, Nat.reduceEqDiff, Nat.reduceBNe, Nat.ble_eq, UInt8.reduceToNat, set_ne nB1_0B1_0_m, set_ne nB1_0B1_0_m.symm, set_comm nB1_0B1_0_m, set_ne nB1_0B1_1, set_ne nB1_0B1_1.symm, set_comm nB1_0B1_1, set_ne nB1_0_mB1_1, set_ne nB1_0_mB1_1.symm, set_comm nB1_0_mB1_1, fnok_81] <;> simp only [encM_nil]) (by simp -implicitDefEqProofs only [go_sem, start, startE, resVs, resV, resC, allV, retK, Nat.reduceBEq, Nat.reduceAdd, Nat.reduceMul, Nat.reduceLeDiff, Nat.reduceEqDiff, Nat.reduceBNe, Nat.ble_eq, UInt8.reduceToNat, set_ne nB1_0B1_0_m, set_ne nB1_0B1_0_m.symm, set_comm nB1_0B1_0_m, set_ne nB1_0B1_1, set_ne nB1_0B1_1.symm, set_comm nB1_0B1_1, set_ne nB1_0_mB1_1, set_ne nB1_0_mB1_1.symm, set_comm nB1_0_mB1_1, fnok_81] <;> simp only [encM_nil]) nB1_0B1_0_m nB1_0B1_1 nB1_0_mB1_1 (ok_mono (show ok (value_Refs_1 v_0 c1_0 c1_1) _ from hh) fun r1 => ?_)
    | with_reducible refine fun hh => FN_cast (by simp -implicitDefEqProofs only [go_sem, start, startE, resVs, resV, resC, allV, retK, Nat.reduceBEq, Nat.reduceAdd, Nat.reduceMul, Nat.reduceLeDiff, Nat.reduceEqDiff, Nat.reduceBNe, Nat.ble_eq, UInt8.reduceToNat, set_ne nB1_0B1_0_m, set_ne nB1_0B1_0_m.symm, set_comm nB1_0B1_0_m, set_ne nB1_0B1_1, set_ne nB1_0B1_1.symm, set_comm nB1_0B1_1, set_ne nB1_0_mB1_1, set_ne nB1_0_mB1_1.symm, set_comm nB1_0_mB1_1, fnok_81]) (value_Refs_1_fn (B1 := B1_0) (B1_m := B1_0_m) (B2 := B1_1) (by simp -implicitDefEqProofs only [go_sem, start, startE, resVs, resV, resC, allV, retK, Nat.reduceBEq, Nat.reduceAdd, Nat.reduceMul, Nat.reduceLeDiff, Nat.reduceEqDiff, Nat.reduceBNe, Nat.ble_eq, UInt8.reduceToNat, set_ne nB1_0B1_0_m, set_ne nB1_0B1_0_m.symm, set_comm nB1_0B1_0_m, set_ne nB1_0B1_1, set_ne nB1_0B1_1.symm, set_comm nB1_0B1_1, set_ne nB1_0_mB1_1, set_ne nB1_0_mB1_1.symm, set_comm nB1_0_mB1_1, fnok_81] <;> simp only [encM_nil]) (by simp -implicitDefEqProofs only [go_sem, start, startE, resVs, resV, resC, allV, retK, Nat.reduceBEq, Nat.reduceAdd, Nat.reduceMul, Nat.reduceLeDiff, Nat.reduceEqDiff, Nat.reduceBNe, Nat.ble_eq, UInt8.reduceToNat, set_ne nB1_0B1_0_m, set_ne nB1_0B1_0_m.symm, set_comm nB1_0B1_0_m, set_ne nB1_0B1_1, set_ne nB1_0B1_1.symm, set_comm nB1_0B1_1, set_ne nB1_0_mB1_1, set_ne nB1_0_mB1_1.symm, set_comm nB1_0_mB1_1, fnok_81] <;> simp only [encM_nil]) (by simp -implicitDefEqProofs only [go_sem, start, startE, resVs, resV, resC, allV, retK, Nat.reduceBEq, Nat.reduceAdd, Nat.reduceMul, Nat.reduceLeDiff, Nat.reduceEqDiff, Nat.reduceBNe, Nat.ble_eq, UInt8.reduceToNat, set_ne nB1_0B1_0_m, set_ne nB1_0B1_0_m.symm, set_comm nB1_0B1_0_m, set_ne nB1_0B1_1, set_ne nB1_0B1_1.symm, set_comm nB1_0B1_1, set_ne nB1_0_mB1_1, set_ne nB1_0_mB1_1.symm, set_comm nB1_0_mB1_1, fnok_81] <;> simp only [encM_nil]) nB1_0B1_0_m nB1_0B1_1 nB1_0_mB1_1 (ok_mono (show ok (value_Refs_1 v_0 c1_0 c1_1) _ from hh) fun r1 => ?_))
    | with_reducible refine fun hh => ih (B1_0 := B1_0) (B1_0_m := B1_0_m) (B1_1 := B1_1) (by simp -implicitDefEqProofs only [go_sem, start, startE, resVs, resV, resC, allV, retK, Nat.reduceBEq, Nat.reduceAdd, Nat.reduceMul, Nat.reduceLeDiff, Nat.reduceEqDiff, Nat.reduceBNe, Nat.ble_eq, UInt8.reduceToNat, set_ne nB1_0B1_0_m, set_ne nB1_0B1_0_m.symm, set_comm nB1_0B1_0_m, set_ne nB1_0B1_1, set_ne nB1_0B1_1.symm, set_comm nB1_0B1_1, set_ne nB1_0_mB1_1, set_ne nB1_0_mB1_1.symm, set_comm nB1_0_mB1_1, fnok_81] <;> simp only [encM_nil]) (by simp -implicitDefEqProofs only [go_sem, start, startE, resVs, resV, resC, allV, retK, Nat.reduceBEq, Nat.reduceAdd, Nat.reduceMul, Nat.reduceLeDiff, Nat.reduceEqDiff, Nat.reduceBNe, Nat.ble_eq, UInt8.reduceToNat, set_ne nB1_0B1_0_m, set_ne nB1_0B1_0_m.symm, set_comm nB1_0B1_0_m, set_ne nB1_0B1_1, set_ne nB1_0B1_1.symm, set_comm nB1_0B1_1, set_ne nB1_0_mB1_1, set_ne nB1_0_mB1_1.symm, set_comm nB1_0_mB1_1, fnok_81] <;> simp only [encM_nil]) (by simp -implicitDefEqProofs only [go_sem, start, startE, resVs, resV, resC, allV, retK, Nat.reduceBEq, Nat.reduceAdd, Nat.reduceMul, Nat.reduceLeDiff, Nat.reduceEqDiff, Nat.reduceBNe, Nat.ble_eq, UInt8.reduceToNat, set_ne nB1_0B1_0_m, set_ne nB1_0B1_0_m.symm, set_comm nB1_0B1_0_m, set_ne nB1_0B1_1, set_ne nB1_0B1_1.symm, set_comm nB1_0B1_1, set_ne nB1_0_mB1_1, set_ne nB1_0_mB1_1.symm, set_comm nB1_0_mB1_1, fnok_81] <;> simp only [encM_nil]) nB1_0B1_0_m nB1_0B1_1 nB1_0_mB1_1 (ok_mono (show ok (value_walk fuel (ix v_0.L t7) o8 o9) _ from hh) fun r15 => ?_)
    | ((with_reducible refine iter_to (fun ((t7, o8, o9) : Int × (List (Int × Bool)) × (List Int)) => ⟨[(1, .fn 81 [] [.ref B1_0 0, .ref B1_1 0]), (20, .sl false 4 v_0.L.length (flat v_0.L)), (21, .int .i64 (v_0.L.length : Int)), (22, .int .i64 t7)], [], (((s.set B1_0 (.cells [.mp B1_0_m])).set B1_0_m (.map (encM ek_Int_Bool ev_Int_Bool o8))).set B1_1 (.cells [.sl true 1 o9.length (flat o9)]))⟩) ?_ ?_); (first | exact rfl | simp -implicitDefEqProofs only [go_sem, start, startE, resVs, resV, resC, allV, retK, Nat.reduceBEq, Nat.reduceAdd, Nat.reduceMul, Nat.reduceLeDiff, Nat.reduceEqDiff, Nat.reduceBNe, Nat.ble_eq, UInt8.reduceToNat, set_ne nB1_0B1_0_m, set_ne nB1_0B1_0_m.symm, set_comm nB1_0B1_0_m, set_ne nB1_0B1_1, set_ne nB1_0B1_1.symm, set_comm nB1_0B1_1, set_ne nB1_0_mB1_1, set_ne nB1_0_mB1_1.symm, set_comm nB1_0_mB1_1, fnok_81]); rintro J ⟨t7, o8, o9⟩)
    | ((with_reducible refine join_toS (fun ((o2, o3) : (List (Int × Bool)) × (List Int)) => ⟨[], [], (((s.set B1_0 (.cells [.mp B1_0_m])).set B1_0_m (.map (encM ek_Int_Bool ev_Int_Bool o2))).set B1_1 (.cells [.sl true 1 o3.length (flat o3)]))⟩) (fun J => ?_) ?_); rotate_left; rintro ⟨o2, o3⟩)
    | simp -implicitDefEqProofs only [go_sem, start, startE, resVs, resV, resC, allV, retK, Nat.reduceBEq, Nat.reduceAdd, Nat.reduceMul, Nat.reduceLeDiff, Nat.reduceEqDiff, Nat.reduceBNe, Nat.ble_eq, UInt8.reduceToNat, set_ne nB1_0B1_0_m, set_ne nB1_0B1_0_m.symm, set_comm nB1_0B1_0_m, set_ne nB1_0B1_1, set_ne nB1_0B1_1.symm, set_comm nB1_0B1_1, set_ne nB1_0_mB1_1, set_ne nB1_0_mB1_1.symm, set_comm nB1_0_mB1_1, fnok_81])
/-- catchword/value.Refs -/
def value_Refs (v_0 : api_Value) : Option ((List Int)) :=
  bnd (value_walk bigN v_0 [] ([] : List Int)) fun r1 =>
  some r1.2.2
def ir_value_Refs : IC :=
 (.seq (.reg none [i1 1 (.boxL 4 (.t 0)),
 i1 2 (.mov true (.c (.sl true 1 0 [])))] [1])
 (.seq (.reg none [i1 3 (.allocS [.sl true 1 0 []])] [1, 3])
 (.seq (.reg none [i1 5 (.makeMap),
 i1 4 (.allocS [.nilm]),
 i0 (.store 1 (.t 4) (.t 5))] [1, 3, 4])
 (.seq (.reg none [i1 6 (.load 4 true (.t 1)),
 i1 7 (.makeFn 81 [] [(.t 4), (.t 3)]),
 i1 8 (.call 80 [(.t 6), (.t 7)])] [3])
 (.seq (.reg none [i1 9 (.loadD (.t 3)),
 mt 2 9] [2])
 .ret)))))
def res_value_Refs : List IRes := [⟨2, true, none⟩]
theorem is_value_Refs : fnIs Go.Proofs.Tryz.prog 55 10 res_value_Refs ir_value_Refs = true := by kernel_rfl
theorem value_Refs_fn {v_0} {s : Store} {Q : List AV → Store → Prop}  : ok (value_Refs v_0) (fun r => Q [.sl true 1 r.length (flat r)] s) → FN Go.Proofs.Tryz.prog 55 [.agg [.int .i64 v_0.Kind, .int .i64 v_0.N, .str v_0.S.b, .sl false 4 v_0.L.length (flat v_0.L)]] s Q := by
  intro h
  refine FN.forget ?_
  refine FN.of (draw_ok mix) is_value_Refs rfl (Nat.le_of_ble_eq_true rfl) ?_
  revert h
  rw [ir_value_Refs, res_value_Refs, value_Refs]
  repeat' (first
    | with_reducible exact tt_to
    | with_reducible refine and_to ?_ ?_
    | with_reducible refine im_to ?_
    | ((have _x := sN3; clear _x); with_reducible refine fun hh => value_walk_fn (B1_0 := N3) (B1_0_m := N2) (B1_1 := N1) (by simp -implicitDefEqProofs only [go_sem, start, startE, resVs, resV, resC, allV, retK, Nat.reduceBEq, Nat.reduceAdd, Nat.reduceMul, Nat.reduceLeDiff, Nat.reduceEqDiff, Nat.reduceBNe, Nat.ble_eq, UInt8.reduceToNat, set_ne nN2N1, set_ne nN2N1.symm, set_comm nN2N1.symm, set_ne nN3N1, set_ne nN3N1.symm, set_comm nN3N1.symm, set_ne nN3N2, set_ne nN3N2.symm, set_comm nN3N2.symm] <;> simp only [encM_nil]) (by simp -implicitDefEqProofs only [go_sem, start, startE, resVs, resV, resC, allV, retK, Nat.reduceBEq, Nat.reduceAdd, Nat.reduceMul, Nat.reduceLeDiff, Nat.reduceEqDiff, Nat.reduceBNe, Nat.ble_eq, UInt8.reduceToNat, set_ne nN2N1, set_ne nN2N1.symm, set_comm nN2N1.symm, set_ne nN3N1, set_ne nN3N1.symm, set_comm nN3N1.symm, set_ne nN3N2, set_ne nN3N2.symm, set_comm nN3N2.symm] <;> simp only [encM_nil]) (by simp -implicitDefEqProofs only [go_sem, start, startE, resVs, resV, resC, allV, retK, Nat.reduceBEq, Nat.reduceAdd, Nat.reduceMul, Nat.reduceLeDiff, Nat.reduceEqDiff, Nat.reduceBNe, Nat.ble_eq, UInt8.reduceToNat, set_ne nN2N1, set_ne nN2N1.symm, set_comm nN2N1.symm, set_ne nN3N1, set_ne nN3N1.symm, set_comm nN3N1.symm, set_ne nN3N2, set_ne nN3N2.symm, set_comm nN3N2.symm] <;> simp only [encM_nil]) nN3N2 nN3N1 nN2N1 (ok_mono (show ok (value_walk bigN v_0 [] ([] : List Int)) _ from hh) fun r1 => ?_))
    | ((have _x := sN3; clear _x); with_reducible refine fun hh => FN_cast (by simp -implicitDefEqProofs only [go_sem, start, startE, resVs, resV, resC, allV, retK, Nat.reduceBEq, Nat.reduceAdd, Nat.reduceMul, Nat.reduceLeDiff, Nat.reduceEqDiff, Nat.reduceBNe, Nat.ble_eq, UInt8.reduceToNat, set_ne nN2N1, set_ne nN2N1.symm, set_comm nN2N1.symm, set_ne nN3N1, set_ne nN3N1.symm, set_comm nN3N1.symm, set_ne nN3N2, set_ne nN3N2.symm, set_comm nN3N2.symm]) (value_walk_fn (B1_0 := N3) (B1_0_m := N2) (B1_1 := N1) (by simp -implicitDefEqProofs only [go_sem, start, startE, resVs, resV, resC, allV, retK, Nat.reduceBEq, Nat.reduceAdd, Nat.reduceMul, Nat.reduceLeDiff, Nat.reduceEqDiff, Nat.reduceBNe, Nat.ble_eq, UInt8.reduceToNat, set_ne nN2N1, set_ne nN2N1.symm, set_comm nN2N1.symm, set_ne nN3N1, set_ne nN3N1.symm, set_comm nN3N1.symm, set_ne nN3N2, set_ne nN3N2.symm, set_comm nN3N2.symm] <;> simp only [encM_nil]) (by simp -implicitDefEqProofs only [go_sem, start, startE, resVs, resV, resC, allV, retK, Nat.reduceBEq, Nat.reduceAdd, Nat.reduceMul, Nat.reduceLeDiff, Nat.reduceEqDiff, Nat.reduceBNe, Nat.ble_eq, UInt8.reduceToNat, set_ne nN2N1, set_ne nN2N1.symm, set_comm nN2N1.symm, set_ne nN3N1, set_ne nN3N1.symm, set_comm nN3N1.symm, set_ne nN3N2, set_ne nN3N2.symm, set_comm nN3N2.symm] <;> simp only [encM_nil]) (by simp -implicitDefEqProofs only [go_sem, start, startE, resVs, resV, resC, allV, retK, Nat.reduceBEq, Nat.reduceAdd, Nat.reduceMul, Nat.reduceLeDiff, Nat.reduceEqDiff, Nat.reduceBNe, Nat.ble_eq, UInt8.reduceToNat, set_ne nN2N1, set_ne nN2N1.symm, set_comm nN2N1.symm, set_ne nN3N1, set_ne nN3N1.symm, set_comm nN3N1.symm, set_ne nN3N2, set_ne nN3N2.symm, set_comm nN3N2.symm] <;> simp only [encM_nil]) nN3N2 nN3N1 nN2N1 (ok_mono (show ok (value_walk bigN v_0 [] ([] : List Int)) _ from hh) fun r1 => ?_)))
    | ((fail_if_success (have _x := sN1)); with_reducible intro hh N1 hN1; (try simp only [set_none] at hN1); have sN1 := hN1; revert hh)
    | (have _x := sN1; clear _x; (fail_if_success (have _x := sN2)); with_reducible intro hh N2 hN2; (try simp only [set_none] at hN2); obtain ⟨nN2N1, sN2⟩ := hN2; revert hh)
    | (have _x := sN2; clear _x; (fail_if_success (have _x := sN3)); with_reducible intro hh N3 hN3; (try simp only [set_none] at hN3); obtain ⟨nN3N2, nN3N1, sN3⟩ := hN3; revert hh)
    | with_reducible exact fun hh => ⟨_, SubS.set (SubS.set (SubS.set (SubS.refl _) (by simp [Store.set, sN1])) (by simp [Store.set, sN2])) (by simp [Store.set, sN3]), hh⟩
    | with_reducible exact fun hh => ⟨_, SubS.set (SubS.set (SubS.refl _) (by simp [Store.set, sN1])) (by simp [Store.set, sN2]), hh⟩
    | with_reducible exact fun hh => ⟨_, SubS.set (SubS.refl _) (by simp [Store.set, sN1]), hh⟩
    | with_reducible exact fun hh => ⟨_, SubS.refl _, hh⟩
    | simp -implicitDefEqProofs only [go_sem, start, startE, resVs, resV, resC, allV, retK, Nat.reduceBEq, Nat.reduceAdd, Nat.reduceMul, Nat.reduceLeDiff, Nat.reduceEqDiff, Nat.reduceBNe, Nat.ble_eq, UInt8.reduceToNat, set_ne nN2N1, set_ne nN2N1.symm, set_comm nN2N1.symm, set_ne nN3N1, set_ne nN3N1.symm, set_comm nN3N1.symm, set_ne nN3N2, set_ne nN3N2.symm, set_comm nN3N2.symm]
    | simp -implicitDefEqProofs only [go_sem, start, startE, resVs, resV, resC, allV, retK, Nat.reduceBEq, Nat.reduceAdd, Nat.reduceMul, Nat.reduceLeDiff, Nat.reduceEqDiff, Nat.reduceBNe, Nat.ble_eq, UInt8.reduceToNat, set_ne nN2N1, set_ne nN2N1.symm, set_comm nN2N1.symm]
    | simp -implicitDefEqProofs only [go_sem, start, startE, resVs, resV, resC, allV, retK, Nat.reduceBEq, Nat.reduceAdd, Nat.reduceMul, Nat.reduceLeDiff, Nat.reduceEqDiff, Nat.reduceBNe, Nat.ble_eq, UInt8.reduceToNat]
    | simp -implicitDefEqProofs only [go_sem, start, startE, resVs, resV, resC, allV, retK, Nat.reduceBEq, Nat.reduceAdd, Nat.reduceMul, Nat.reduceLeDiff, Nat.reduceEqDiff, Nat.reduceBNe, Nat.ble_eq, UInt8.reduceToNat])
theorem value_Refs_fe {v_0} {s : Store} {r : (List Int)}  (h : value_Refs v_0 = some r) : FE Go.Proofs.Tryz.prog 55 [.agg [.int .i64 v_0.Kind, .int .i64 v_0.N, .str v_0.S.b, .sl false 4 v_0.L.length (flat v_0.L)]] s [.sl true 1 r.length (flat r)] s := value_Refs_fn   ⟨r, h, rfl, rfl⟩
/-- catchword/reach.Next$1 -/
def reach_Next_1 (n_0 : Int) : Option (Bool) :=
  some ((decide (n_0 < 1)) || (decide (n_0 > 4096)))
def ir_reach_Next_1 : IC :=
 (.seq (.reg none [i1 2 (.mov false (.c (.bool false)))] [0])
 (.seq (.reg none [mv 3 0,
 i1 4 (.bin .lss (.t 3) (.c (.int .i64 1))),
 mv 5 4,
 mvg 6 0 5 false,
 i1g 7 5 false (.bin .gtr (.t 6) (.c (.int .i64 4096))),
 i1 8 (.pick (.t 5) (.c (.bool true)) (.t 7)),
 mv 2 8] [2])
 .ret))
def res_reach_Next_1 : List IRes := [⟨2, true, none⟩]
theorem is_reach_Next_1 : fnIs Go.Proofs.Tryz.prog 56 9 res_reach_Next_1 ir_reach_Next_1 = true := by kernel_rfl
theorem reach_Next_1_fn {n_0} {s : Store} {Q : List AV → Store → Prop}  : ok (reach_Next_1 n_0) (fun r => Q [.bool r] s) → FN Go.Proofs.Tryz.prog 56 [.int .i64 n_0] s Q := by
  intro h
  refine FN.of (draw_ok mix) is_reach_Next_1 rfl (Nat.le_of_ble_eq_true rfl) ?_
  revert h
  rw [ir_reach_Next_1, res_reach_Next_1, reach_Next_1]
  repeat' (first
    | with_reducible exact tt_to
    | with_reducible refine and_to ?_ ?_
    | with_reducible refine im_to ?_
    | simp -implicitDefEqProofs only [go_sem, start, startE, resVs, resV, resC, allV, retK, Nat.reduceBEq, Nat.reduceAdd, Nat.reduceMul, Nat.reduceLeDiff, Nat.reduceEqDiff, Nat.reduceBNe, Nat.ble_eq, UInt8.reduceToNat])
theorem reach_Next_1_fe {n_0} {s : Store} {r : Bool}  (h : reach_Next_1 n_0 = some r) : FE Go.Proofs.Tryz.prog 56 [.int .i64 n_0] s [.bool r] s := reach_Next_1_fn   ⟨r, h, rfl, rfl⟩
/-- slices.IndexFunc[[]int,int] -/
def slices_IndexFuncint_int (s_0 : (List Int)) : Option (Int) :=
  jnS (
    bndS (
      iter (fun (t2 : Int) =>
        if decide (t2 < (s_0.length : Int)) then
          need (0 ≤ t2 ∧ t2 < s_0.length) <|
          bnd (reach_Next_1 (ix s_0 t2)) fun r4 =>
          if r4 then
            some (.inr (.inr t2))
          else
            some (.inl (w64 (t2 + 1)))
        else
          some (.inr (.inl ()))) 0) (fun (_ : Unit) =>
      some (.inl ()))
    (fun (t3 : Int) => some (.inr t3))) (fun (_ : Unit) =>
    some (-1))
  (fun (t1 : Int) => some t1)
theorem fnok_56 : (fnOK Go.Proofs.Tryz.prog 56 = true) = True := eq_true (by kernel_rfl)
def ir_slices_IndexFuncint_int : IC :=
 (.seq (.reg none [i1 4 (.mov false (.c (.int .i64 0)))] [0, 1])
 (.join [] (.seq (.reg none [mv 6 0,
 i1 7 (.len 0 (.t 6)),
 i1 8 (.mov false (.c (.int .i64 0)))] [0, 1, 7, 8])
 (.block 0 (.loop [(0, true), (1, false), (7, false), (8, false)] (.seq (.reg none [i1 9 (.bin .lss (.t 8) (.t 7))] [0, 1, 7, 8, 9])
 (.seq (.cond (.t 9) .skip
 (.exit 0))
 (.seq (.block 1 (.seq (.reg none [mv 10 8,
 mv 5 10] [0, 1, 5, 7, 8])
 (.seq (.reg none [mv 11 1,
 mv 12 0,
 mv 13 5,
 i1 14 (.indexAddr [.int .i64 0] (.t 12) (.t 13)),
 i1 15 (.load 1 false (.t 14)),
 i1 16 (.callv (.t 11) [(.t 15)])] [0, 1, 5, 7, 8, 16])
 (.cond (.t 16) (.seq (.reg none [mv 17 5,
 mv 4 17] [4])
 .ret)
 .skip))))
 (.reg none [i1 18 (.bin .add (.t 8) (.c (.int .i64 1))),
 mv 8 18] [0, 1, 7, 8])))))))
 (.seq (.reg none [i1 4 (.mov false (.c (.int .i64 (-1))))] [4])
 .ret)))
def res_slices_IndexFuncint_int : List IRes := [⟨4, true, none⟩]
theorem is_slices_IndexFuncint_int : fnIs Go.Proofs.Tryz.prog 79 19 res_slices_IndexFuncint_int ir_slices_IndexFuncint_int = true := by kernel_rfl
theorem slices_IndexFuncint_int_fn {s_0} {s : Store} {Q : List AV → Store → Prop}  : ok (slices_IndexFuncint_int s_0) (fun r => Q [.int .i64 r] s) → FN Go.Proofs.Tryz.prog 79 [.sl false 1 s_0.length (flat s_0), .fn 56 [] []] s Q := by
  intro h
  refine FN.of (draw_ok mix) is_slices_IndexFuncint_int rfl (Nat.le_of_ble_eq_true rfl) ?_
  revert h
  rw [ir_slices_IndexFuncint_int, res_slices_IndexFuncint_int, slices_IndexFuncint_int]
  repeat' (first
    | with_reducible exact tt_to
    | with_reducible refine and_to ?_ ?_
    | with_reducible refine im_to ?_
    | with_reducible refine call_to (fun _ (h : reach_Next_1 (ix s_0 t2) = some _) => reach_Next_1_fe h) (fun r4 => ?_)
    | with_reducible refine call_to_q (fun _ (h : reach_Next_1 (ix s_0 t2) = some _) => reach_Next_1_fe h) (fun _ => rfl) (fun r4 => ?_)
    | with_reducible refine call_to (fun _ (h : reach_Next_1 (ix s_0 t2) = some _) => (by refine FE_cast ?_ (reach_Next_1_fe h); simp -implicitDefEqProofs only [go_sem, start, startE, resVs, resV, resC, allV, retK, Nat.reduceBEq, Nat.reduceAdd, Nat.reduceMul, Nat.reduceLeDiff, Nat.reduceEqDiff, Nat.reduceBNe, Nat.ble_eq, UInt8.reduceToNat, fnok_56])) (fun r4 => ?_)
    | with_reducible refine call_to_q (fun _ (h : reach_Next_1 (ix s_0 t2) = some _) => (by refine FE_cast ?_ (reach_Next_1_fe h); simp -implicitDefEqProofs only [go_sem, start, startE, resVs, resV, resC, allV, retK, Nat.reduceBEq, Nat.reduceAdd, Nat.reduceMul, Nat.reduceLeDiff, Nat.reduceEqDiff, Nat.reduceBNe, Nat.ble_eq, UInt8.reduceToNat, fnok_56])) (fun _ => rfl) (fun r4 => ?_)
    | ((with_reducible refine iter_to (fun (t2 : Int) => ⟨[(0, .sl false 1 s_0.length (flat s_0)), (1, .fn 56 [] []), (7, .int .i64 (s_0.length : Int)), (8, .int .i64 t2)], [], s⟩) ?_ ?_); (first | exact rfl | simp -implicitDefEqProofs only [go_sem, start, startE, resVs, resV, resC, allV, retK, Nat.reduceBEq, Nat.reduceAdd, Nat.reduceMul, Nat.reduceLeDiff, Nat.reduceEqDiff, Nat.reduceBNe, Nat.ble_eq, UInt8.reduceToNat, fnok_56]); rintro J t2)
    | ((with_reducible refine join_toS (fun (_ : Unit) => ⟨[], [], s⟩) (fun J => ?_) ?_); rotate_left; rintro _)
    | simp -implicitDefEqProofs only [go_sem, start, startE, resVs, resV, resC, allV, retK, Nat.reduceBEq, Nat.reduceAdd, Nat.reduceMul, Nat.reduceLeDiff, Nat.reduceEqDiff, Nat.reduceBNe, Nat.ble_eq, UInt8.reduceToNat, fnok_56])
theorem slices_IndexFuncint_int_fe {s_0} {s : Store} {r : Int}  (h : slices_IndexFuncint_int s_0 = some r) : FE Go.Proofs.Tryz.prog 79 [.sl false 1 s_0.length (flat s_0), .fn 56 [] []] s [.int .i64 r] s := slices_IndexFuncint_int_fn   ⟨r, h, rfl, rfl⟩
/-- slices.DeleteFunc[[]int,int] -/
def ir_DelInt : IC :=
 (.seq (.reg none [i1 4 (.mov false (.c (.arr 0 0 0 0)))] [0, 1])
 (.seq (.reg none [mv 8 0,
 mv 9 1,
 i1 10 (.call 79 [(.t 8), (.t 9)]),
 mv 5 10] [0, 1, 5])
 (.seq (.seq (.reg none [mv 11 5,
 i1 12 (.bin .eql (.t 11) (.c (.int .i64 (-1))))] [0, 1, 5, 12])
 (.cond (.t 12) (.seq (.reg none [mv 13 0,
 mv 4 13] [4])
 .ret)
 .skip))
 (.seq (.seq (.reg none [mv 14 5,
 i1 15 (.bin .add (.t 14) (.c (.int .i64 1))),
 mv 6 15] [0, 1, 5, 6])
 (.block 0 (.loop [(0, false), (1, false), (5, false), (6, false)] (.seq (.seq (.reg none [mv 16 6,
 mv 17 0,
 i1 18 (.len 0 (.t 17)),
 i1 19 (.bin .lss (.t 16) (.t 18))] [0, 1, 5, 6, 19])
 (.cond (.t 19) .skip
 (.exit 0)))
 (.seq (.block 1 (.seq (.reg none [mv 22 0,
 mv 23 6,
 i1 24 (.indexAddr [.int .i64 0] (.t 22) (.t 23)),
 i1 25 (.load 1 false (.t 24)),
 mv 7 25] [0, 1, 5, 6, 7])
 (.seq (.reg none [mv 26 1,
 mv 27 7,
 i1 28 (.callv (.t 26) [(.t 27)]),
 i1 29 (.un .not (.t 28))] [0, 1, 5, 6, 7, 29])
 (.cond (.t 29) (.seq (.reg none [mv 30 0,
 mv 31 5,
 mv 32 7,
 i1 33 (.indexAddr [.int .i64 0] (.t 30) (.t 31)),
 i0 (.store 1 (.t 33) (.t 32))] [0, 1, 5, 6])
 (.reg none [mv 34 5,
 i1 35 (.bin .add (.t 34) (.c (.int .i64 1))),
 mv 5 35] [0, 1, 5, 6]))
 .skip))))
 (.reg none [mv 20 6,
 i1 21 (.bin .add (.t 20) (.c (.int .i64 1))),
 mv 6 21] [0, 1, 5, 6]))))))
 (.seq (.reg none [mv 36 0,
 mv 37 5,
 i1 38 (.slice 1 (.t 36) (some (.t 37)) none none),
 i0 (.clearA [.int .i64 0] (.t 38))] [0, 5])
 (.seq (.reg none [mv 39 0,
 mv 40 5,
 i1 41 (.slice 1 (.t 39) none (some (.t 40)) none),
 mv 4 41] [4])
 .ret))))))
def res_DelInt : List IRes := [⟨4, true, none⟩]
theorem is_DelInt : fnIs Go.Proofs.Tryz.prog 54 42 res_DelInt ir_DelInt = true := by kernel_rfl

theorem index_args_int {T : Type} [Enc T] {w : World} {R R' : Nat → Nat} {b cap f : Nat} {l : List T} {vs : Array Value} (mono : ∀ a u, VR w R a u → VR w R' a u) (hv : ∀ u, VR w R (.arr b 0 l.length cap) u → VR w R' (.sl false 1 l.length (flat l)) u)
    (ha : ArgsR w R [.arr b 0 l.length cap, .fn f [] []] vs) : ArgsR w R' [.sl false 1 l.length (flat l), .fn f [] []] vs := by
  refine ⟨ha.1, fun j a v hj hvs => ?_⟩
  match j, hj with
  | 0, hj => cases hj; exact hv v (ha.2 0 _ v rfl hvs)
  | 1, hj => cases hj; exact mono _ _ (ha.2 1 _ v rfl hvs)

theorem index_row_int {b cap : Nat} {l : List Int} {sp : List AV} {r : Int} {s : Store} {Q : List AV → Store → Prop} (hs : s b = some (.cells (flat l ++ sp))) (hn : l.length ≤ cap) (h : slices_IndexFuncint_int l = some r) (hq : Q [.int .i64 r] s) :
    FN Go.Proofs.Tryz.prog 79 [.arr b 0 l.length cap, .fn 56 [] []] s Q := by
  refine FN.borrow b (l.length * 1) (args' := [.sl false 1 l.length (flat l), .fn 56 [] []]) (FE.app (slices_IndexFuncint_int_fe h) ⟨rfl, hq⟩) fun G w vs hst ha => ?_
  refine index_args_int (fun a u h => h.mono (fun i => ?_) fun _ _ _ => rfl) (fun u hu => arr_view hst (flat_len l) hn (flat_views l) (fun _ => ⟨sp, hs⟩) hu (by decide)) ha
  show G.R i ≤ if i = b ∧ b < w.heap.size then l.length * 1 else G.R i
  split
  · rename_i e
    obtain ⟨q2, q3, _⟩ := hst b _ hs
    rw [e.1, q3]; exact Nat.zero_le _
  · exact Nat.le_refl _
theorem index_nil_int {b : Nat} {r : Int} {s : Store} {Q : List AV → Store → Prop} (h : slices_IndexFuncint_int [] = some r) (hq : Q [.int .i64 r] s) :
    FN Go.Proofs.Tryz.prog 79 [.arr b 0 0 0, .fn 56 [] []] s Q :=
  FN.args (FE.app (slices_IndexFuncint_int_fe h) hq) fun G w vs _ ha => index_args_int (l := ([] : List Int)) (fun _ _ h => h) (fun u hu => arr_nil hu) ha
theorem set_self {s : Store} {b : Nat} {o : SO} (h : s b = some o) : s.set b o = s := by
  funext c
  unfold Store.set
  split
  · rename_i e; subst e; rw [h]
  · rfl


def gone (x : Int) : Bool := (decide (x < 1)) || (decide (x > 4096))
theorem gone_fe (x : Int) (s : Store) : FE Go.Proofs.Tryz.prog 56 [.int .i64 x] s [.bool (gone x)] s := reach_Next_1_fe rfl
theorem delInt_arr {b cap i : Nat} {l : List Int} {sp : List AV} {s : Store} {Q : List AV → Store → Prop} (hs : s b = some (.cells (flat l ++ sp))) (hl : (flat l ++ sp).length = cap * 1) (hn : l.length ≤ cap) (hbig : (l.length : Int) ≤ 9223372036854775807)
    (hidx : slices_IndexFuncint_int l = some (i : Int)) (hi : i < l.length) (hk : (l.take (i + 1)).filter (fun x => !gone x) = l.take i)
    (hq : ∀ sp', (flat (l.filter (fun x => !gone x)) ++ sp').length = cap * 1 → Q [.arr b 0 (l.filter (fun x => !gone x)).length cap] (s.set b (.cells (flat (l.filter (fun x => !gone x)) ++ sp')))) :
    FN Go.Proofs.Tryz.prog 54 [.arr b 0 l.length cap, .fn 56 [] []] s Q := by
  refine FN.of (draw_ok mix) is_DelInt rfl (Nat.le_of_ble_eq_true rfl) ?_
  rw [ir_DelInt, res_DelInt]
  simp -implicitDefEqProofs only [go_sem, start, startE, resVs, resV, resC, allV, retK, Nat.reduceBEq, Nat.reduceAdd, Nat.reduceMul, Nat.reduceLeDiff, Nat.reduceEqDiff, Nat.reduceBNe, Nat.ble_eq, UInt8.reduceToNat]
  refine index_row_int hs hn hidx ?_
  simp -implicitDefEqProofs only [go_sem, start, startE, resVs, resV, resC, allV, retK, Nat.reduceBEq, Nat.reduceAdd, Nat.reduceMul, Nat.reduceLeDiff, Nat.reduceEqDiff, Nat.reduceBNe, Nat.ble_eq, UInt8.reduceToNat]
  have e1 : (((i : Int)) == -1) = false := by rw [beq_eq_false_iff_ne]; omega
  rw [e1]
  refine ⟨fun h => (by cases h), fun _ => ?_⟩
  have w1 : w64 ((i : Int) + 1) = ((i + 1 : Nat) : Int) := by rw [w64_id (by omega) (by omega)]; omega
  rw [w1]
  refine ⟨fun τ => ∃ (a j : Nat) (l' : List Int), τ = ⟨[(0, .arr b 0 l.length cap), (1, .fn 56 [] []), (5, .int .i64 (a : Int)), (6, .int .i64 (j : Int))], [], s.set b (.cells (flat l' ++ sp))⟩ ∧ l'.length = l.length ∧ a < j ∧ j ≤ l.length ∧ l'.take a = (l.take j).filter (fun x => !gone x) ∧ l'.drop j = l.drop j ∧ a = ((l.take j).filter (fun x => !gone x)).length,
    fun τ => match look τ.e 6 with | .int _ j => l.length - j.toNat | _ => 0, ?_, ?_⟩
  · refine ⟨i, i + 1, l, ?_, rfl, by omega, by omega, hk.symm, rfl, ?_⟩
    · rw [set_self hs]; rfl
    · rw [hk]; simp; omega
  · rintro τ ⟨a, j, l', rfl, h1, h2, h3, h4, h5, h6⟩
    have hlen : (flat l' ++ sp).length = cap * 1 := by rw [← hl, List.length_append, List.length_append, flat_len, flat_len, h1]
    simp -implicitDefEqProofs only [go_sem, start, startE, resVs, resV, resC, allV, retK, Nat.reduceBEq, Nat.reduceAdd, Nat.reduceMul, Nat.reduceLeDiff, Nat.reduceEqDiff, Nat.reduceBNe, Nat.ble_eq, UInt8.reduceToNat, set_at]
    refine ⟨fun hj => ⟨⟨by omega, of_decide_eq_true hj⟩, ?_⟩, fun hj => ⟨by omega, ?_⟩⟩
    · have hj := of_decide_eq_true hj
      have hj' : j < l.length := by omega
      have hx : ∃ x, l.drop j = x :: l.drop (j + 1) ∧ (l.take (j + 1)).filter (fun x => !gone x) = (l.take j).filter (fun x => !gone x) ++ (if gone x then [] else [x]) := by
        refine ⟨l[j], List.drop_eq_getElem_cons hj', ?_⟩
        rw [List.take_succ_eq_append_getElem hj', List.filter_append]
        cases hg : gone l[j] <;> simp [hg]
      obtain ⟨x, hx1, hx2⟩ := hx
      have hd : decide (j * 1 + 1 ≤ (flat l').length + sp.length) = true := decide_eq_true (by rw [flat_len, h1]; show j * 1 + 1 ≤ l.length * 1 + _; omega)
      have hv : views (AB.sub (flat l' ++ sp) (j * 1) 1) = [.int .i64 x] := by
        have := row_sub l' sp 1 j 1 rfl (by omega)
        rw [Nat.one_mul] at this
        rw [this, h5, hx1]; rfl
      rw [hd, hv]
      simp -implicitDefEqProofs only [go_sem, start, startE, resVs, resV, resC, allV, retK, Nat.reduceBEq, Nat.reduceAdd, Nat.reduceMul, Nat.reduceLeDiff, Nat.reduceEqDiff, Nat.reduceBNe, Nat.ble_eq, UInt8.reduceToNat]
      refine ⟨(by kernel_rfl), FE.app (gone_fe x _) ?_⟩
      have w2 : w64 ((j : Int) + 1) = ((j + 1 : Nat) : Int) := by rw [w64_id (by omega) (by omega)]; omega
      have w3 : w64 ((a : Int) + 1) = ((a + 1 : Nat) : Int) := by rw [w64_id (by omega) (by omega)]; omega
      simp -implicitDefEqProofs only [go_sem, start, startE, resVs, resV, resC, allV, retK, Nat.reduceBEq, Nat.reduceAdd, Nat.reduceMul, Nat.reduceLeDiff, Nat.reduceEqDiff, Nat.reduceBNe, Nat.ble_eq, UInt8.reduceToNat, set_at, w2, w3]
      have st := row_set l' [x] sp 1 a rfl (by simp; omega)
      have d1 : l'.drop (j + 1) = l.drop (j + 1) := by rw [← List.drop_drop, ← List.drop_drop, h5]
      have ht : (l'.take a ++ [x]).length = a + 1 := by simp; omega
      refine ⟨fun hg => ⟨⟨by omega, by omega⟩, by rw [flat_len, h1]; show a * 1 + 1 ≤ l.length * 1 + _; omega, ⟨a + 1, j + 1, l'.take a ++ [x] ++ l'.drop (a + 1), ?_, ?_, by omega, by omega, ?_, ?_, ?_⟩, by omega⟩,
        fun hg => ⟨⟨a, j + 1, l', rfl, h1, by omega, by omega, ?_, d1, ?_⟩, by omega⟩⟩
      · rw [show setAt (flat l' ++ sp) (a * 1) [AV.int .i64 x] = _ from st]; rfl
      · rw [List.length_append, ht, List.length_drop]; omega
      · rw [List.take_append_of_le_length (by omega), List.take_of_length_le (by omega), hx2, h4]
        have : gone x = false := by cases h : gone x <;> simp_all
        simp [this]
      · rw [List.drop_append, List.drop_of_length_le (by omega), List.nil_append, ht, List.drop_drop, show a + 1 + (j + 1 - (a + 1)) = j + 1 by omega, d1]
      · have : gone x = false := by cases h : gone x <;> simp_all
        rw [hx2, List.length_append, ← h6, this]; rfl
      · have : gone x = true := by cases h : gone x <;> simp_all
        rw [h4, hx2, this]; simp
      · have : gone x = true := by cases h : gone x <;> simp_all
        rw [hx2, this, h6]; simp
    · have hj := of_decide_eq_false hj
      obtain rfl : j = l.length := by omega
      rw [arrOff_lt (by omega)]
      have hsp : (flat l' ++ sp).length = cap := by omega
      refine clearAW_in rfl set_at (by
        rw [hsp]
        show 0 + a * 1 + (l.length - a) * 1 ≤ cap
        omega) ?_
      have hz : (List.replicate (l.length - a) [AV.int .i64 0]).flatten = flat (List.replicate (l.length - a) (0 : Int)) := by
        rw [flat_rep]; rfl
      have st := row_set l' (List.replicate (l.length - a) (0 : Int)) sp 1 a rfl (by simp; omega)
      have e3 : l'.drop (a + (List.replicate (l.length - a) (0 : Int)).length) = [] := by
        rw [List.drop_eq_nil_iff]; simp; omega
      rw [e3, List.append_nil, h4, List.take_length, flat_append, List.append_assoc] at st
      rw [List.take_length] at h6
      rw [Nat.zero_add, hz, st]
      generalize hF : l.filter (fun x => !gone x) = F at hq h6
      have hq' := hq (flat (List.replicate (l.length - a) (0 : Int)) ++ sp) (by
        rw [List.length_append, List.length_append, flat_len, flat_len, List.length_replicate, ← h6]
        rw [List.length_append, flat_len, h1] at hsp
        have q1 : Enc.w Int = 1 := rfl
        rw [q1] at hsp ⊢
        omega)
      rw [← h6] at hq'
      generalize flat (List.replicate (l.length - a) (0 : Int)) ++ sp = sp' at hq'
      simp -implicitDefEqProofs only [go_sem, start, startE, resVs, resV, resC, allV, retK, Nat.reduceBEq, Nat.reduceAdd, Nat.reduceMul, Nat.reduceLeDiff, Nat.reduceEqDiff, Nat.reduceBNe, Nat.ble_eq, UInt8.reduceToNat]
      exact ⟨⟨by omega, by omega, by omega⟩, hq'⟩
theorem delInt_none {b off n cap : Nat} {s : Store} {Q : List AV → Store → Prop} (hx : ∀ Q : List AV → Store → Prop, Q [.int .i64 (-1)] s → FN Go.Proofs.Tryz.prog 79 [.arr b off n cap, .fn 56 [] []] s Q) (hq : Q [.arr b off n cap] s) :
    FN Go.Proofs.Tryz.prog 54 [.arr b off n cap, .fn 56 [] []] s Q := by
  refine FN.of (draw_ok mix) is_DelInt rfl (Nat.le_of_ble_eq_true rfl) ?_
  rw [ir_DelInt, res_DelInt]
  simp -implicitDefEqProofs only [go_sem, start, startE, resVs, resV, resC, allV, retK, Nat.reduceBEq, Nat.reduceAdd, Nat.reduceMul, Nat.reduceLeDiff, Nat.reduceEqDiff, Nat.reduceBNe, Nat.ble_eq, UInt8.reduceToNat]
  refine hx _ ?_
  simp -implicitDefEqProofs only [go_sem, start, startE, resVs, resV, resC, allV, retK, Nat.reduceBEq, Nat.reduceAdd, Nat.reduceMul, Nat.reduceLeDiff, Nat.reduceEqDiff, Nat.reduceBNe, Nat.ble_eq, UInt8.reduceToNat]
  exact ⟨fun _ => hq, fun h => (by cases h)⟩
theorem index_int (l : List Int) (hb : l.length < 4611686018427387904) :
    slices_IndexFuncint_int l = some (match l.findIdx? gone with | some i => (i : Int) | none => -1) := by
  unfold slices_IndexFuncint_int
  have step : ∀ k (hk : k < l.length), reach_Next_1 (ix l (k : Int)) = some (gone l[k]) := fun k hk => by
    have e : ix l (k : Int) = l[k] := ix_at (i := (k : Int)) hk
    rw [e]; rfl
  cases h : l.findIdx? gone with
  | none =>
    rw [List.findIdx?_eq_none_iff] at h
    refine jnS_of (z := .inl ()) (bndS_of (z := .inl ()) (iter_cnt l.length hb (fun k hk => ?_) ?_) rfl) rfl
    · refine if_of (decide_eq_true (by omega)) (need_of ⟨by omega, by omega⟩ (bnd_of (step k hk) ?_))
      rw [h _ (List.getElem_mem hk)]; rfl
    · exact if_not (by simp) rfl
  | some i =>
    rw [List.findIdx?_eq_some_iff_getElem] at h
    obtain ⟨hi, h1, h2⟩ := h
    refine jnS_of (z := .inr (i : Int)) (bndS_of (z := .inr (i : Int)) (iter_cnt i (by omega) (fun k hk => ?_) ?_) rfl) rfl
    · refine if_of (decide_eq_true (by omega)) (need_of ⟨by omega, by omega⟩ (bnd_of (step k (by omega)) ?_))
      have := h2 k hk
      rw [Bool.not_eq_true] at this
      rw [this]; rfl
    · refine if_of (decide_eq_true (by omega)) (need_of ⟨by omega, by omega⟩ (bnd_of (step i hi) ?_))
      rw [h1]; rfl
theorem FN.empty_sl {P : Program} {f : FuncId} {args : List AV} {s s2 : Store} {Q : List AV → Store → Prop} {sz : Nat} (hq : Q [.sl false sz 0 []] s2) (h : FN P f args s fun rs s' => (∃ b off, rs = [.arr b off 0 0]) ∧ Sub s2 s') : FN P f args s Q := by
  refine h.conv fun rs s' ⟨⟨b, off, e⟩, hsub⟩ G w v hg hs hr => ?_
  subst e
  refine ⟨_, _, G, hq, GhStep.refl G, hg, hs.sub hsub, ?_⟩
  rcases VR.inv_arr' hr.1 with e | ⟨_, _, e⟩
  · exact ⟨by rw [e]; exact .sle sz _ _, trivial⟩
  · exact ⟨by rw [e]; exact .slnil false sz, trivial⟩
theorem arr_nil' {w : World} {R : Nat → Nat} {b off sz : Nat} {v : Value} (hv : VR w R (.arr b off 0 0) v) : VR w R (.sl false sz 0 []) v := by
  rcases VR.inv_arr' hv with e | ⟨_, _, e⟩
  · rw [e]; exact .sle sz _ _
  · rw [e]; exact .slnil false sz
def kept (l : List Int) : List Int := l.filter fun x => !gone x
theorem delInt_us {l : List Int} {s : Store} {Q : List AV → Store → Prop} (hb : l.length * 8 ≤ room) (hq : ∀ o, Q [.sl o 1 (kept l).length (flat (kept l))] s) {b cap : Nat} {sp : List AV} (h0 : s b = none) (hc : 0 < cap) (hn : l.length ≤ cap) (hl : (flat l ++ sp).length = cap * 1) :
    FN Go.Proofs.Tryz.prog 54 [.arr b 0 l.length cap, .fn 56 [] []] (s.set b (.cells (flat l ++ sp))) Q := by
  have hb' : l.length < 4611686018427387904 := by unfold room at hb; omega
  have hidx := index_int l hb'
  refine FN.row_sl (flat_len (kept l)) (flat_views _) (hq true) ?_
  cases h : l.findIdx? gone with
  | none =>
    rw [h] at hidx
    rw [List.findIdx?_eq_none_iff] at h
    have e : kept l = l := List.filter_eq_self.2 fun x hx => by rw [h x hx]; rfl
    rw [e]
    refine delInt_none (fun Q hQ => index_row_int set_at hn hidx hQ) (.inl ⟨b, cap, sp, rfl, set_at, hc, hn, hl, ?_⟩)
    rw [del_set h0]; exact Sub.refl s
  | some i =>
    rw [h] at hidx
    rw [List.findIdx?_eq_some_iff_getElem] at h
    obtain ⟨hi, h1, h2⟩ := h
    have hk0 : (l.take i).filter (fun x => !gone x) = l.take i := List.filter_eq_self.2 fun x hx => by
      obtain ⟨j, hj, rfl⟩ := List.mem_iff_getElem.1 hx
      rw [List.length_take] at hj
      rw [List.getElem_take]
      have := h2 j (by omega)
      rw [Bool.not_eq_true] at this
      rw [this]; rfl
    refine delInt_arr set_at hl hn (by omega) hidx hi ?_ fun sp' hsp => .inl ⟨b, cap, sp', rfl, set_at, hc, ?_, hsp, ?_⟩
    · rw [List.take_succ_eq_append_getElem hi, List.filter_append, hk0]
      simp [h1]
    · exact Nat.le_trans (List.length_filter_le _ _) hn
    · rw [set_set, del_set h0]; exact Sub.refl s
theorem delInt_us0 {s : Store} {Q : List AV → Store → Prop} (hq : ∀ o, Q [.sl o 1 0 []] s) {b off : Nat} :
    FN Go.Proofs.Tryz.prog 54 [.arr b off 0 0, .fn 56 [] []] s Q :=
  FN.empty_sl (hq false) (delInt_none (fun Q hQ => FN.args (FE.app (slices_IndexFuncint_int_fe (s_0 := []) (by rw [index_int [] (by decide)]; rfl)) hQ) fun G w vs _ ha => ⟨ha.1, fun j a v hj hvs => by
    match j, hj with
    | 0, hj => cases hj; exact arr_nil' (ha.2 0 _ v rfl hvs)
    | 1, hj => cases hj; exact ha.2 1 _ v rfl hvs⟩) ⟨⟨b, off, rfl⟩, Sub.refl s⟩)

/-- catchword/reach.Next -/
def ir_reach_Next : IC :=
 (.seq (.reg none [i1 1 (.boxL 4 (.t 0)),
 i1 2 (.mov true (.c (.sl true 1 0 [])))] [1])
 (.seq (.reg none [i1 3 (.load 4 true (.t 1)),
 i1 4 (.call 55 [(.t 3)]),
 i1 5 (.callU 54 4 [(.t 4), (.c (.fn 56 [] []))]),
 mt 2 5] [2])
 .ret))
def res_reach_Next : List IRes := [⟨2, false, none⟩]
theorem is_reach_Next : fnIs Go.Proofs.Tryz.prog 30 6 res_reach_Next ir_reach_Next = true := by kernel_rfl


def reach_Next (v_0 : api_Value) : Option (List Int) :=
  bnd (value_Refs v_0) fun l => need (l.length * 8 ≤ room) <| some (kept l)
theorem flat_ints {l : List Int} {x : AV} (h : x ∈ flat l) : ∃ y, x = .int .i64 y := by
  unfold flat at h
  rw [List.mem_flatten] at h
  obtain ⟨c, hc, hx⟩ := h
  obtain ⟨y, _, rfl⟩ := List.mem_map.1 hc
  exact ⟨y, List.mem_singleton.1 hx⟩
theorem reach_Next_fn {v_0 : api_Value} {s : Store} {Q : List AV → Store → Prop} (h : ok (reach_Next v_0) fun r => Q [.sl false 1 r.length (flat r)] s) : FN Go.Proofs.Tryz.prog 30 [.agg [.int .i64 v_0.Kind, .int .i64 v_0.N, .str v_0.S.b, .sl false 4 v_0.L.length (flat v_0.L)]] s Q := by
  refine FN.of (draw_ok mix) is_reach_Next rfl (Nat.le_of_ble_eq_true rfl) ?_
  unfold reach_Next at h
  rw [ok_bnd] at h
  obtain ⟨l, hl, h⟩ := h
  rw [ok_need, ok_some] at h
  obtain ⟨hr, hq⟩ := h
  rw [ir_reach_Next, res_reach_Next]
  simp -implicitDefEqProofs only [go_sem, start, startE, resVs, resV, resC, allV, retK, Nat.reduceBEq, Nat.reduceAdd, Nat.reduceMul, Nat.reduceLeDiff, Nat.reduceEqDiff, Nat.reduceBNe, Nat.ble_eq, UInt8.reduceToNat]
  refine FN.own_us (List.all_eq_true.2 fun x hx => ?_) (fun x hx => ?_) (by decide) (value_Refs_fe hl) ?_
  · obtain ⟨y, rfl⟩ := flat_ints hx; rfl
  · obtain ⟨y, hy⟩ := flat_ints (List.mem_of_getElem? hx)
    injection hy with h1; cases h1
  simp -implicitDefEqProofs only [go_sem, start, startE, resVs, resV, resC, allV, retK, Nat.reduceBEq, Nat.reduceAdd, Nat.reduceMul, Nat.reduceLeDiff, Nat.reduceEqDiff, Nat.reduceBNe, Nat.ble_eq, UInt8.reduceToNat]
  refine ⟨fun b cap sp h0 hc hn hlen _ _ => ?_, fun h0 b off => ?_⟩
  · simp -implicitDefEqProofs only [go_sem, start, startE, resVs, resV, resC, allV, retK, Nat.reduceBEq, Nat.reduceAdd, Nat.reduceMul, Nat.reduceLeDiff, Nat.reduceEqDiff, Nat.reduceBNe, Nat.ble_eq, UInt8.reduceToNat, set_at]
    refine delInt_us hr (fun o => ?_) h0 hc hn hlen
    simp -implicitDefEqProofs only [go_sem, start, startE, resVs, resV, resC, allV, retK, Nat.reduceBEq, Nat.reduceAdd, Nat.reduceMul, Nat.reduceLeDiff, Nat.reduceEqDiff, Nat.reduceBNe, Nat.ble_eq, UInt8.reduceToNat]
    exact hq
  · have e : l = [] := List.eq_nil_of_length_eq_zero h0
    subst e
    simp -implicitDefEqProofs only [go_sem, start, startE, resVs, resV, resC, allV, retK, Nat.reduceBEq, Nat.reduceAdd, Nat.reduceMul, Nat.reduceLeDiff, Nat.reduceEqDiff, Nat.reduceBNe, Nat.ble_eq, UInt8.reduceToNat]
    refine delInt_us0 (fun o => ?_)
    simp -implicitDefEqProofs only [go_sem, start, startE, resVs, resV, resC, allV, retK, Nat.reduceBEq, Nat.reduceAdd, Nat.reduceMul, Nat.reduceLeDiff, Nat.reduceEqDiff, Nat.reduceBNe, Nat.ble_eq, UInt8.reduceToNat]
    exact hq
theorem reach_Next_fe {v_0 : api_Value} {s : Store} {r : List Int} (h : reach_Next v_0 = some r) : FE Go.Proofs.Tryz.prog 30 [.agg [.int .i64 v_0.Kind, .int .i64 v_0.N, .str v_0.S.b, .sl false 4 v_0.L.length (flat v_0.L)]] s [.sl false 1 r.length (flat r)] s := reach_Next_fn ⟨r, h, rfl, rfl⟩

/-- catchword/reach.First -/
def reach_First (v_0 : api_Value) (given_1 : api_Value) : Option ((List Int)) :=
  bnd (value_Drop v_0 (Str.mk [80, 97, 114, 101, 110, 116])) fun r1 =>
  bnd (reach_Next r1) fun r2 =>
  bnd (reach_row_put (reach_row.mk ([] : List Int) []) r2) fun r3 =>
  bnd (reach_Next given_1) fun r4 =>
  bnd (reach_row_put r3 r4) fun r5 =>
  some r5.l_
def ir_reach_First : IC :=
 (.seq (.reg none [i1 2 (.boxL 4 (.t 0)),
 i1 3 (.boxL 4 (.t 1)),
 i1 4 (.mov true (.c (.sl true 1 0 [])))] [2, 3])
 (.seq (.reg none [i1 6 (.makeMap),
 i1 7 (.build [.arr 0 0 0 0, .nilm] [(1, 1, (.t 6))]),
 i1 8 (.boxN 1 2 (.t 7)),
 mv 5 8] [2, 3, 5])
 (.seq (.reg none [mv 9 5,
 i1 10 (.load 4 true (.t 2)),
 i1 11 (.call 57 [(.t 10), (.c (.str [80, 97, 114, 101, 110, 116]))]),
 i1 12 (.call 30 [(.t 11)]),
 i1 13 (.call 32 [(.t 9), (.t 12)])] [3, 5])
 (.seq (.reg none [mv 14 5,
 i1 15 (.load 4 true (.t 3)),
 i1 16 (.call 30 [(.t 15)]),
 i1 17 (.call 32 [(.t 14), (.t 16)])] [5])
 (.seq (.reg none [mv 18 5,
 i1 19 (.nilCheck (.t 18)),
 i1 20 (.fieldAddr 0 (.t 19)),
 i1 21 (.loadD (.t 20)),
 mt 4 21] [4])
 .ret)))))
def res_reach_First : List IRes := [⟨4, true, none⟩]
theorem is_reach_First : fnIs Go.Proofs.Tryz.prog 31 22 res_reach_First ir_reach_First = true := by kernel_rfl
theorem reach_First_fn {v_0 given_1} {s : Store} {Q : List AV → Store → Prop}  : ok (reach_First v_0 given_1) (fun r => Q [.sl true 1 r.length (flat r)] s) → FN Go.Proofs.Tryz.prog 31 [.agg [.int .i64 v_0.Kind, .int .i64 v_0.N, .str v_0.S.b, .sl false 4 v_0.L.length (flat v_0.L)], .agg [.int .i64 given_1.Kind, .int .i64 given_1.N, .str given_1.S.b, .sl false 4 given_1.L.length (flat given_1.L)]] s Q := by
  intro h
  refine FN.forget ?_
  refine FN.of (draw_ok mix) is_reach_First rfl (Nat.le_of_ble_eq_true rfl) ?_
  revert h
  rw [ir_reach_First, res_reach_First, reach_First]
  repeat' (first
    | with_reducible exact tt_to
    | with_reducible refine and_to ?_ ?_
    | with_reducible refine im_to ?_
    | with_reducible refine call_to (fun _ (h : value_Drop v_0 (Str.mk [80, 97, 114, 101, 110, 116]) = some _) => value_Drop_fe h) (fun r1 => ?_)
    | with_reducible refine call_to_q (fun _ (h : value_Drop v_0 (Str.mk [80, 97, 114, 101, 110, 116]) = some _) => value_Drop_fe h) (fun _ => rfl) (fun r1 => ?_)
    | with_reducible refine call_to (fun _ (h : value_Drop v_0 (Str.mk [80, 97, 114, 101, 110, 116]) = some _) => (by refine FE_cast ?_ (value_Drop_fe h); simp -implicitDefEqProofs only [go_sem, start, startE, resVs, resV, resC, allV, retK, Nat.reduceBEq, Nat.reduceAdd, Nat.reduceMul, Nat.reduceLeDiff, Nat.reduceEqDiff, Nat.reduceBNe, Nat.ble_eq, UInt8.reduceToNat])) (fun r1 => ?_)
    | with_reducible refine call_to_q (fun _ (h : value_Drop v_0 (Str.mk [80, 97, 114, 101, 110, 116]) = some _) => (by refine FE_cast ?_ (value_Drop_fe h); simp -implicitDefEqProofs only [go_sem, start, startE, resVs, resV, resC, allV, retK, Nat.reduceBEq, Nat.reduceAdd, Nat.reduceMul, Nat.reduceLeDiff, Nat.reduceEqDiff, Nat.reduceBNe, Nat.ble_eq, UInt8.reduceToNat])) (fun _ => rfl) (fun r1 => ?_)
    | with_reducible refine call_to (fun _ (h : reach_Next r1 = some _) => reach_Next_fe h) (fun r2 => ?_)
    | with_reducible refine call_to_q (fun _ (h : reach_Next r1 = some _) => reach_Next_fe h) (fun _ => rfl) (fun r2 => ?_)
    | with_reducible refine call_to (fun _ (h : reach_Next r1 = some _) => (by refine FE_cast ?_ (reach_Next_fe h); simp -implicitDefEqProofs only [go_sem, start, startE, resVs, resV, resC, allV, retK, Nat.reduceBEq, Nat.reduceAdd, Nat.reduceMul, Nat.reduceLeDiff, Nat.reduceEqDiff, Nat.reduceBNe, Nat.ble_eq, UInt8.reduceToNat])) (fun r2 => ?_)
    | with_reducible refine call_to_q (fun _ (h : reach_Next r1 = some _) => (by refine FE_cast ?_ (reach_Next_fe h); simp -implicitDefEqProofs only [go_sem, start, startE, resVs, resV, resC, allV, retK, Nat.reduceBEq, Nat.reduceAdd, Nat.reduceMul, Nat.reduceLeDiff, Nat.reduceEqDiff, Nat.reduceBNe, Nat.ble_eq, UInt8.reduceToNat])) (fun _ => rfl) (fun r2 => ?_)
    | with_reducible refine fun hh => reach_row_put_fn (B0 := N2) (B0_in_ := N1) (by simp -implicitDefEqProofs only [go_sem, start, startE, resVs, resV, resC, allV, retK, Nat.reduceBEq, Nat.reduceAdd, Nat.reduceMul, Nat.reduceLeDiff, Nat.reduceEqDiff, Nat.reduceBNe, Nat.ble_eq, UInt8.reduceToNat, set_ne nN2N1, set_ne nN2N1.symm, set_comm nN2N1.symm] <;> simp only [encM_nil]) (by simp -implicitDefEqProofs only [go_sem, start, startE, resVs, resV, resC, allV, retK, Nat.reduceBEq, Nat.reduceAdd, Nat.reduceMul, Nat.reduceLeDiff, Nat.reduceEqDiff, Nat.reduceBNe, Nat.ble_eq, UInt8.reduceToNat, set_ne nN2N1, set_ne nN2N1.symm, set_comm nN2N1.symm] <;> simp only [encM_nil]) nN2N1 (ok_mono (show ok (reach_row_put (reach_row.mk ([] : List Int) []) r2) _ from hh) fun r3 => ?_)
    | with_reducible refine fun hh => FN_cast (by simp -implicitDefEqProofs only [go_sem, start, startE, resVs, resV, resC, allV, retK, Nat.reduceBEq, Nat.reduceAdd, Nat.reduceMul, Nat.reduceLeDiff, Nat.reduceEqDiff, Nat.reduceBNe, Nat.ble_eq, UInt8.reduceToNat, set_ne nN2N1, set_ne nN2N1.symm, set_comm nN2N1.symm]) (reach_row_put_fn (B0 := N2) (B0_in_ := N1) (by simp -implicitDefEqProofs only [go_sem, start, startE, resVs, resV, resC, allV, retK, Nat.reduceBEq, Nat.reduceAdd, Nat.reduceMul, Nat.reduceLeDiff, Nat.reduceEqDiff, Nat.reduceBNe, Nat.ble_eq, UInt8.reduceToNat, set_ne nN2N1, set_ne nN2N1.symm, set_comm nN2N1.symm] <;> simp only [encM_nil]) (by simp -implicitDefEqProofs only [go_sem, start, startE, resVs, resV, resC, allV, retK, Nat.reduceBEq, Nat.reduceAdd, Nat.reduceMul, Nat.reduceLeDiff, Nat.reduceEqDiff, Nat.reduceBNe, Nat.ble_eq, UInt8.reduceToNat, set_ne nN2N1, set_ne nN2N1.symm, set_comm nN2N1.symm] <;> simp only [encM_nil]) nN2N1 (ok_mono (show ok (reach_row_put (reach_row.mk ([] : List Int) []) r2) _ from hh) fun r3 => ?_))
    | with_reducible refine call_to (fun _ (h : reach_Next given_1 = some _) => reach_Next_fe h) (fun r4 => ?_)
    | with_reducible refine call_to_q (fun _ (h : reach_Next given_1 = some _) => reach_Next_fe h) (fun _ => rfl) (fun r4 => ?_)
    | with_reducible refine call_to (fun _ (h : reach_Next given_1 = some _) => (by refine FE_cast ?_ (reach_Next_fe h); simp -implicitDefEqProofs only [go_sem, start, startE, resVs, resV, resC, allV, retK, Nat.reduceBEq, Nat.reduceAdd, Nat.reduceMul, Nat.reduceLeDiff, Nat.reduceEqDiff, Nat.reduceBNe, Nat.ble_eq, UInt8.reduceToNat])) (fun r4 => ?_)
    | with_reducible refine call_to_q (fun _ (h : reach_Next given_1 = some _) => (by refine FE_cast ?_ (reach_Next_fe h); simp -implicitDefEqProofs only [go_sem, start, startE, resVs, resV, resC, allV, retK, Nat.reduceBEq, Nat.reduceAdd, Nat.reduceMul, Nat.reduceLeDiff, Nat.reduceEqDiff, Nat.reduceBNe, Nat.ble_eq, UInt8.reduceToNat])) (fun _ => rfl) (fun r4 => ?_)
    | with_reducible refine fun hh => reach_row_put_fn (B0 := N2) (B0_in_ := N1) (by simp -implicitDefEqProofs only [go_sem, start, startE, resVs, resV, resC, allV, retK, Nat.reduceBEq, Nat.reduceAdd, Nat.reduceMul, Nat.reduceLeDiff, Nat.reduceEqDiff, Nat.reduceBNe, Nat.ble_eq, UInt8.reduceToNat, set_ne nN2N1, set_ne nN2N1.symm, set_comm nN2N1.symm] <;> simp only [encM_nil]) (by simp -implicitDefEqProofs only [go_sem, start, startE, resVs, resV, resC, allV, retK, Nat.reduceBEq, Nat.reduceAdd, Nat.reduceMul, Nat.reduceLeDiff, Nat.reduceEqDiff, Nat.reduceBNe, Nat.ble_eq, UInt8.reduceToNat, set_ne nN2N1, set_ne nN2N1.symm, set_comm nN2N1.symm] <;> simp only [encM_nil]) nN2N1 (ok_mono (show ok (reach_row_put r3 r4) _ from hh) fun r5 => ?_)
    | with_reducible refine fun hh => FN_cast (by simp -implicitDefEqProofs only [go_sem, start, startE, resVs, resV, resC, allV, retK, Nat.reduceBEq, Nat.reduceAdd, Nat.reduceMul, Nat.reduceLeDiff, Nat.reduceEqDiff, Nat.reduceBNe, Nat.ble_eq, UInt8.reduceToNat, set_ne nN2N1, set_ne nN2N1.symm, set_comm nN2N1.symm]) (reach_row_put_fn (B0 := N2) (B0_in_ := N1) (by simp -implicitDefEqProofs only [go_sem, start, startE, resVs, resV, resC, allV, retK, Nat.reduceBEq, Nat.reduceAdd, Nat.reduceMul, Nat.reduceLeDiff, Nat.reduceEqDiff, Nat.reduceBNe, Nat.ble_eq, UInt8.reduceToNat, set_ne nN2N1, set_ne nN2N1.symm, set_comm nN2N1.symm] <;> simp only [encM_nil]) (by simp -implicitDefEqProofs only [go_sem, start, startE, resVs, resV, resC, allV, retK, Nat.reduceBEq, Nat.reduceAdd, Nat.reduceMul, Nat.reduceLeDiff, Nat.reduceEqDiff, Nat.reduceBNe, Nat.ble_eq, UInt8.reduceToNat, set_ne nN2N1, set_ne nN2N1.symm, set_comm nN2N1.symm] <;> simp only [encM_nil]) nN2N1 (ok_mono (show ok (reach_row_put r3 r4) _ from hh) fun r5 => ?_))
    | ((fail_if_success (have _x := sN1)); with_reducible intro hh N1 hN1; (try simp only [set_none] at hN1); have sN1 := hN1; revert hh)
    | (have _x := sN1; clear _x; (fail_if_success (have _x := sN2)); with_reducible intro hh N2 hN2; (try simp only [set_none] at hN2); obtain ⟨nN2N1, sN2⟩ := hN2; revert hh)
    | with_reducible exact fun hh => ⟨_, SubS.set (SubS.set (SubS.refl _) (by simp [Store.set, sN1])) (by simp [Store.set, sN2]), hh⟩
    | with_reducible exact fun hh => ⟨_, SubS.set (SubS.refl _) (by simp [Store.set, sN1]), hh⟩
    | with_reducible exact fun hh => ⟨_, SubS.refl _, hh⟩
    | simp -implicitDefEqProofs only [go_sem, start, startE, resVs, resV, resC, allV, retK, Nat.reduceBEq, Nat.reduceAdd, Nat.reduceMul, Nat.reduceLeDiff, Nat.reduceEqDiff, Nat.reduceBNe, Nat.ble_eq, UInt8.reduceToNat, set_ne nN2N1, set_ne nN2N1.symm, set_comm nN2N1.symm]
    | simp -implicitDefEqProofs only [go_sem, start, startE, resVs, resV, resC, allV, retK, Nat.reduceBEq, Nat.reduceAdd, Nat.reduceMul, Nat.reduceLeDiff, Nat.reduceEqDiff, Nat.reduceBNe, Nat.ble_eq, UInt8.reduceToNat]
    | simp -implicitDefEqProofs only [go_sem, start, startE, resVs, resV, resC, allV, retK, Nat.reduceBEq, Nat.reduceAdd, Nat.reduceMul, Nat.reduceLeDiff, Nat.reduceEqDiff, Nat.reduceBNe, Nat.ble_eq, UInt8.reduceToNat])
theorem reach_First_fe {v_0 given_1} {s : Store} {r : (List Int)}  (h : reach_First v_0 given_1 = some r) : FE Go.Proofs.Tryz.prog 31 [.agg [.int .i64 v_0.Kind, .int .i64 v_0.N, .str v_0.S.b, .sl false 4 v_0.L.length (flat v_0.L)], .agg [.int .i64 given_1.Kind, .int .i64 given_1.N, .str given_1.S.b, .sl false 4 given_1.L.length (flat given_1.L)]] s [.sl true 1 r.length (flat r)] s := reach_First_fn   ⟨r, h, rfl, rfl⟩
/-- catchword/reach.Closure -/
def reach_Closure (f_0 : file_File) (l_1 : tree_Leaf) : Option ((List Int) × (List api_Object) × Int × Int) :=
  bnd (reach_row_put (reach_row.mk ([] : List Int) []) [l_1.Page]) fun r1 =>
  jnS (
    bndS (
      iter (fun ((out11, o12) : (List api_Object) × reach_row) =>
        if decide ((out11.length : Int) < (o12.l_.length : Int)) then
          need (0 ≤ (out11.length : Int) ∧ (out11.length : Int) < o12.l_.length) <|
          bnd (file_File_Get f_0 (ix o12.l_ (out11.length : Int))) fun r22 =>
          if r22.2.2 != 0 then
            some (.inr (.inr (([] : List Int), ([] : List api_Object), r22.2.1, r22.2.2, o12)))
          else
            jn (
              if (out11.length : Int) == 0 then
                bnd (reach_First r22.1.V l_1.Given) fun r28 =>
                bnd (reach_row_put o12 r28) fun r29 =>
                some r29
              else
                bnd (reach_Next r22.1.V) fun r30 =>
                bnd (reach_row_put o12 r30) fun r31 =>
                some r31) fun (o27 : reach_row) =>
            need ((out11.length + [r22.1].length) * 80 ≤ room) <|
            some (.inl (out11 ++ [r22.1], o27))
        else
          some (.inr (.inl (out11, o12)))) (([] : List api_Object), r1)) (fun ((out13, o15) : (List api_Object) × reach_row) =>
      some (.inl (out13, o15)))
    (fun ((t16, t17, t18, t19, o21) : (List Int) × (List api_Object) × Int × Int × reach_row) => some (.inr (t16, t17, t18, t19, o21)))) (fun ((out2, o4) : (List api_Object) × reach_row) =>
    some (o4.l_, out2, 0, 0))
  (fun ((t5, t6, t7, t8, o10) : (List Int) × (List api_Object) × Int × Int × reach_row) => some (t5, t6, t7, t8))
def ir_reach_Closure : IC :=
 (.seq (.reg none [i1 3 (.boxL 6 (.t 1)),
 i1 4 (.mov true (.c (.sl true 1 0 []))),
 i1 5 (.mov true (.c (.sl true 6 0 []))),
 i1 6 (.mov false (.c (.int .i64 0))),
 i1 7 (.mov false (.c (.int .i64 0)))] [0, 3])
 (.seq (.reg none [i1 13 (.makeMap),
 i1 14 (.build [.arr 0 0 0 0, .nilm] [(1, 1, (.t 13))]),
 i1 15 (.boxN 1 2 (.t 14)),
 mv 8 15] [0, 3, 8])
 (.seq (.reg none [mv 16 8,
 i1 17 (.fieldAddr 0 (.t 3)),
 i1 18 (.load 1 false (.t 17)),
 i1 19 (.buildSl 1 1 [.int .i64 0] [(0, 1, (.t 18))]),
 i1 20 (.call 32 [(.t 16), (.t 19)])] [0, 3, 8])
 (.seq (.reg none [i1 9 (.mov true (.c (.sl true 6 0 [])))] [0, 3, 8, 9])
 (.join [(8, false), (9, false)] (.block 0 (.loop [(0, false), (3, false), (8, false), (9, false)] (.seq (.seq (.reg none [mv 21 9,
 i1 22 (.len 0 (.t 21)),
 mv 23 8,
 i1 24 (.nilCheck (.t 23)),
 i1 25 (.fieldAddr 0 (.t 24)),
 i1 26 (.loadR [.sl false 1 0 []] false (.t 25)),
 i1 27 (.len 0 (.t 26)),
 i1 28 (.bin .lss (.t 22) (.t 27))] [0, 3, 8, 9, 28])
 (.cond (.t 28) .skip
 (.exit 0)))
 (.block 1 (.seq (.reg none [mv 30 0,
 mv 31 8,
 i1 32 (.nilCheck (.t 31)),
 i1 33 (.fieldAddr 0 (.t 32)),
 i1 34 (.loadR [.sl false 1 0 []] false (.t 33)),
 mv 35 9,
 i1 36 (.len 0 (.t 35)),
 i1 37 (.indexAddr [.int .i64 0] (.t 34) (.t 36)),
 i1 38 (.load 1 false (.t 37)),
 i1 39 (.call 33 [(.t 30), (.t 38)]),
 i1 29 (.movT (.t 39)),
 i1 40 (.extract (.t 29) 0),
 i1 41 (.extract (.t 29) 1),
 i1 42 (.extract (.t 29) 2),
 i1 10 (.allocL [.int .i64 0, .int .i64 0, .str [], .sl true 4 0 [], .bool false, .str []]),
 i0 (.store 6 (.t 10) (.t 40)),
 mv 11 41,
 mv 12 42] [0, 3, 8, 9, 10, 11, 12])
 (.seq (.seq (.reg none [mv 43 12,
 i1 44 (.bin .neq (.t 43) (.c (.int .i64 0)))] [0, 3, 8, 9, 10, 11, 12, 44])
 (.cond (.t 44) (.seq (.reg none [mv 45 11,
 mv 46 12,
 i1 4 (.mov true (.c (.sl true 1 0 []))),
 i1 5 (.mov true (.c (.sl true 6 0 []))),
 mv 6 45,
 mv 7 46] [4, 5, 6, 7])
 .ret)
 .skip))
 (.join [(0, false), (3, false), (8, false), (9, false), (10, false)] (.seq (.reg none [mv 47 9,
 i1 48 (.len 0 (.t 47)),
 i1 49 (.bin .eql (.t 48) (.c (.int .i64 0)))] [0, 3, 8, 9, 10, 49])
 (.cond (.t 49) (.reg none [mv 50 8,
 i1 51 (.fieldAddr 0 (.t 10)),
 i1 52 (.load 4 true (.t 51)),
 i1 53 (.fieldAddr 2 (.t 3)),
 i1 54 (.load 4 true (.t 53)),
 i1 55 (.call 31 [(.t 52), (.t 54)]),
 i1 56 (.call 32 [(.t 50), (.t 55)])] [0, 3, 8, 9, 10])
 (.reg none [mv 57 8,
 i1 58 (.fieldAddr 0 (.t 10)),
 i1 59 (.load 4 true (.t 58)),
 i1 60 (.call 30 [(.t 59)]),
 i1 61 (.call 32 [(.t 57), (.t 60)])] [0, 3, 8, 9, 10])))
 (.reg none [mt 62 9,
 i1 63 (.load 6 true (.t 10)),
 i1 64 (.buildSl 6 1 [.int .i64 0, .int .i64 0, .str [], .sl true 4 0 [], .bool false, .str []] [(0, 6, (.t 63))]),
 i1 65 (.append 6 80 (.t 62) (.t 64)),
 mt 9 65] [0, 3, 8, 9]))))))))
 (.seq (.reg none [mv 66 8,
 i1 67 (.nilCheck (.t 66)),
 i1 68 (.fieldAddr 0 (.t 67)),
 i1 69 (.loadD (.t 68)),
 mt 70 9,
 mt 4 69,
 mt 5 70,
 i1 6 (.mov false (.c (.int .i64 0))),
 i1 7 (.mov false (.c (.int .i64 0)))] [4, 5, 6, 7])
 .ret))))))
def res_reach_Closure : List IRes := [⟨4, true, none⟩, ⟨5, true, none⟩, ⟨6, true, none⟩, ⟨7, true, none⟩]
theorem is_reach_Closure : fnIs Go.Proofs.Tryz.prog 9 71 res_reach_Closure ir_reach_Closure = true := by kernel_rfl
theorem reach_Closure_fn {f_0 l_1} {B0 B0_get_ : Nat} {s : Store} {Q : List AV → Store → Prop} (hB0 : s B0 = some (.cells [.int .i64 f_0.root_, .int .i64 f_0.count_, .fn 34 [] [.ref B0_get_ 0]])) (hB0_get_ : s B0_get_ = some (.cells [.sl false 6 f_0.get_.Objects.length (flat f_0.get_.Objects), .int .i64 f_0.get_.Root])) (nB0B0_get_ : B0 ≠ B0_get_) : ok (reach_Closure f_0 l_1) (fun r => Q [.sl true 1 r.1.length (flat r.1), .sl true 6 r.2.1.length (flat r.2.1), .int .i64 r.2.2.1, .int .i64 r.2.2.2] s) → FN Go.Proofs.Tryz.prog 9 [.ref B0 0, .agg [.int .i64 l_1.Page, .sl false 1 l_1.Path.length (flat l_1.Path), .int .i64 l_1.Given.Kind, .int .i64 l_1.Given.N, .str l_1.Given.S.b, .sl false 4 l_1.Given.L.length (flat l_1.Given.L)]] s Q := by
  have hS : s = ((s.set B0 (.cells [.int .i64 f_0.root_, .int .i64 f_0.count_, .fn 34 [] [.ref B0_get_ 0]])).set B0_get_ (.cells [.sl false 6 f_0.get_.Objects.length (flat f_0.get_.Objects), .int .i64 f_0.get_.Root])) := by simp only [set_eq' hB0, set_eq' hB0_get_]
  rw [hS]
  intro h
  refine FN.forget ?_
  refine FN.of (draw_ok mix) is_reach_Closure rfl (Nat.le_of_ble_eq_true rfl) ?_
  revert h
  rw [ir_reach_Closure, res_reach_Closure, reach_Closure]
  repeat' (first
    | with_reducible exact tt_to
    | with_reducible refine and_to ?_ ?_
    | with_reducible refine im_to ?_
    | with_reducible refine fun hh => reach_row_put_fn (B0 := N2) (B0_in_ := N1) (by simp -implicitDefEqProofs only [go_sem, start, startE, resVs, resV, resC, allV, retK, Nat.reduceBEq, Nat.reduceAdd, Nat.reduceMul, Nat.reduceLeDiff, Nat.reduceEqDiff, Nat.reduceBNe, Nat.ble_eq, UInt8.reduceToNat, set_ne nB0B0_get_, set_ne nB0B0_get_.symm, set_comm nB0B0_get_, set_ne nN1B0, set_ne nN1B0.symm, set_comm nN1B0.symm, set_ne nN1B0_get_, set_ne nN1B0_get_.symm, set_comm nN1B0_get_.symm, set_ne nN2B0, set_ne nN2B0.symm, set_comm nN2B0.symm, set_ne nN2B0_get_, set_ne nN2B0_get_.symm, set_comm nN2B0_get_.symm, set_ne nN2N1, set_ne nN2N1.symm, set_comm nN2N1.symm] <;> simp only [encM_nil]) (by simp -implicitDefEqProofs only [go_sem, start, startE, resVs, resV, resC, allV, retK, Nat.reduceBEq, Nat.reduceAdd, Nat.reduceMul, Nat.reduceLeDiff, Nat.reduceEqDiff, Nat.reduceBNe, Nat.ble_eq, UInt8.reduceToNat, set_ne nB0B0_get_, set_ne nB0B0_get_.symm, set_comm nB0B0_get_, set_ne nN1B0, set_ne nN1B0.symm, set_comm nN1B0.symm, set_ne nN1B0_get_, set_ne nN1B0_get_.symm, set_comm nN1B0_get_.symm, set_ne nN2B0, set_ne nN2B0.symm, set_comm nN2B0.symm, set_ne nN2B0_get_, set_ne nN2B0_get_.symm, set_comm nN2B0_get_.symm, set_ne nN2N1, set_ne nN2N1.symm, set_comm nN2N1.symm] <;> simp only [encM_nil]) nN2N1 (ok_mono (show ok (reach_row_put (reach_row.mk ([] : List Int) []) [l_1.Page]) _ from hh) fun r1 => ?_)
    | with_reducible refine fun hh => FN_cast (by simp -implicitDefEqProofs only [go_sem, start, startE, resVs, resV, resC, allV, retK, Nat.reduceBEq, Nat.reduceAdd, Nat.reduceMul, Nat.reduceLeDiff, Nat.reduceEqDiff, Nat.reduceBNe, Nat.ble_eq, UInt8.reduceToNat, set_ne nB0B0_get_, set_ne nB0B0_get_.symm, set_comm nB0B0_get_, set_ne nN1B0, set_ne nN1B0.symm, set_comm nN1B0.symm, set_ne nN1B0_get_, set_ne nN1B0_get_.symm, set_comm nN1B0_get_.symm, set_ne nN2B0, set_ne nN2B0.symm, set_comm nN2B0.symm, set_ne nN2B0_get_, set_ne nN2B0_get_.symm, set_comm nN2B0_get_.symm, set_ne nN2N1, set_ne nN2N1.symm, set_comm nN2N1.symm]) (reach_row_put_fn (B0 := N2) (B0_in_ := N1) (by simp -implicitDefEqProofs only [go_sem, start, startE, resVs, resV, resC, allV, retK, Nat.reduceBEq, Nat.reduceAdd, Nat.reduceMul, Nat.reduceLeDiff, Nat.reduceEqDiff, Nat.reduceBNe, Nat.ble_eq, UInt8.reduceToNat, set_ne nB0B0_get_, set_ne nB0B0_get_.symm, set_comm nB0B0_get_, set_ne nN1B0, set_ne nN1B0.symm, set_comm nN1B0.symm, set_ne nN1B0_get_, set_ne nN1B0_get_.symm, set_comm nN1B0_get_.symm, set_ne nN2B0, set_ne nN2B0.symm, set_comm nN2B0.symm, set_ne nN2B0_get_, set_ne nN2B0_get_.symm, set_comm nN2B0_get_.symm, set_ne nN2N1, set_ne nN2N1.symm, set_comm nN2N1.symm] <;> simp only [encM_nil]) (by simp -implicitDefEqProofs only [go_sem, start, startE, resVs, resV, resC, allV, retK, Nat.reduceBEq, Nat.reduceAdd, Nat.reduceMul, Nat.reduceLeDiff, Nat.reduceEqDiff, Nat.reduceBNe, Nat.ble_eq, UInt8.reduceToNat, set_ne nB0B0_get_, set_ne nB0B0_get_.symm, set_comm nB0B0_get_, set_ne nN1B0, set_ne nN1B0.symm, set_comm nN1B0.symm, set_ne nN1B0_get_, set_ne nN1B0_get_.symm, set_comm nN1B0_get_.symm, set_ne nN2B0, set_ne nN2B0.symm, set_comm nN2B0.symm, set_ne nN2B0_get_, set_ne nN2B0_get_.symm, set_comm nN2B0_get_.symm, set_ne nN2N1, set_ne nN2N1.symm, set_comm nN2N1.symm] <;> simp only [encM_nil]) nN2N1 (ok_mono (show ok (reach_row_put (reach_row.mk ([] : List Int) []) [l_1.Page]) _ from hh) fun r1 => ?_))
    | with_reducible refine call_to (fun _ (h : file_File_Get f_0 (ix o12.l_ (out11.length : Int)) = some _) => file_File_Get_fe (B0 := B0) (B0_get_ := B0_get_) (by simp -implicitDefEqProofs only [go_sem, start, startE, resVs, resV, resC, allV, retK, Nat.reduceBEq, Nat.reduceAdd, Nat.reduceMul, Nat.reduceLeDiff, Nat.reduceEqDiff, Nat.reduceBNe, Nat.ble_eq, UInt8.reduceToNat, set_ne nB0B0_get_, set_ne nB0B0_get_.symm, set_comm nB0B0_get_, set_ne nN1B0, set_ne nN1B0.symm, set_comm nN1B0.symm, set_ne nN1B0_get_, set_ne nN1B0_get_.symm, set_comm nN1B0_get_.symm, set_ne nN2B0, set_ne nN2B0.symm, set_comm nN2B0.symm, set_ne nN2B0_get_, set_ne nN2B0_get_.symm, set_comm nN2B0_get_.symm, set_ne nN2N1, set_ne nN2N1.symm, set_comm nN2N1.symm] <;> simp only [encM_nil]) (by simp -implicitDefEqProofs only [go_sem, start, startE, resVs, resV, resC, allV, retK, Nat.reduceBEq, Nat.reduceAdd, Nat.reduceMul, Nat.reduceLeDiff, Nat.reduceEqDiff, Nat.reduceBNe, Nat.ble_eq, UInt8.reduceToNat, set_ne nB0B0_get_, set_ne nB0B0_get_.symm, set_comm nB0B0_get_, set_ne nN1B0, set_ne nN1B0.symm, set_comm nN1B0.symm, set_ne nN1B0_get_, set_ne nN1B0_get_.symm, set_comm nN1B0_get_.symm, set_ne nN2B0, set_ne nN2B0.symm, set_comm nN2B0.symm, set_ne nN2B0_get_, set_ne nN2B0_get_.symm, set_comm nN2B0_get_.symm, set_ne nN2N1, set_ne nN2N1.symm, set_comm nN2N1.symm] <;> simp only [encM_nil]) nB0B0_get_ h) (fun r22 => ?_)
    | with_reducible refine call_to_q (fun _ (h : file_File_Get f_0 (ix o12.l_ (out11.length : Int)) = some _) => file_File_Get_fe (B0 := B0) (B0_get_ := B0_get_) (by simp -implicitDefEqProofs only [go_sem, start, startE, resVs, resV, resC, allV, retK, Nat.reduceBEq, Nat.reduceAdd, Nat.reduceMul, Nat.reduceLeDiff, Nat.reduceEqDiff, Nat.reduceBNe, Nat.ble_eq, UInt8.reduceToNat, set_ne nB0B0_get_, set_ne nB0B0_get_.symm, set_comm nB0B0_get_, set_ne nN1B0, set_ne nN1B0.symm, set_comm nN1B0.symm, set_ne nN1B0_get_, set_ne nN1B0_get_.symm, set_comm nN1B0_get_.symm, set_ne nN2B0, set_ne nN2B0.symm, set_comm nN2B0.symm, set_ne nN2B0_get_, set_ne nN2B0_get_.symm, set_comm nN2B0_get_.symm, set_ne nN2N1, set_ne nN2N1.symm, set_comm nN2N1.symm] <;> simp only [encM_nil]) (by simp -implicitDefEqProofs only [go_sem, start, startE, resVs, resV, resC, allV, retK, Nat.reduceBEq, Nat.reduceAdd, Nat.reduceMul, Nat.reduceLeDiff, Nat.reduceEqDiff, Nat.reduceBNe, Nat.ble_eq, UInt8.reduceToNat, set_ne nB0B0_get_, set_ne nB0B0_get_.symm, set_comm nB0B0_get_, set_ne nN1B0, set_ne nN1B0.symm, set_comm nN1B0.symm, set_ne nN1B0_get_, set_ne nN1B0_get_.symm, set_comm nN1B0_get_.symm, set_ne nN2B0, set_ne nN2B0.symm, set_comm nN2B0.symm, set_ne nN2B0_get_, set_ne nN2B0_get_.symm, set_comm nN2B0_get_.symm, set_ne nN2N1, set_ne nN2N1.symm, set_comm nN2N1.symm] <;> simp only [encM_nil]) nB0B0_get_ h) (fun _ => rfl) (fun r22 => ?_)
    | with_reducible refine call_to (fun _ (h : file_File_Get f_0 (ix o12.l_ (out11.length : Int)) = some _) => file_File_Get_fe (B0 := B0) (B0_get_ := B0_get_) (by simp -implicitDefEqProofs only [go_sem, start, startE, resVs, resV, resC, allV, retK, Nat.reduceBEq, Nat.reduceAdd, Nat.reduceMul, Nat.reduceLeDiff, Nat.reduceEqDiff, Nat.reduceBNe, Nat.ble_eq, UInt8.reduceToNat, set_ne nB0B0_get_, set_ne nB0B0_get_.symm, set_comm nB0B0_get_, set_ne nN1B0, set_ne nN1B0.symm, set_comm nN1B0.symm, set_ne nN1B0_get_, set_ne nN1B0_get_.symm, set_comm nN1B0_get_.symm] <;> simp only [encM_nil]) (by simp -implicitDefEqProofs only [go_sem, start, startE, resVs, resV, resC, allV, retK, Nat.reduceBEq, Nat.reduceAdd, Nat.reduceMul, Nat.reduceLeDiff, Nat.reduceEqDiff, Nat.reduceBNe, Nat.ble_eq, UInt8.reduceToNat, set_ne nB0B0_get_, set_ne nB0B0_get_.symm, set_comm nB0B0_get_, set_ne nN1B0, set_ne nN1B0.symm, set_comm nN1B0.symm, set_ne nN1B0_get_, set_ne nN1B0_get_.symm, set_comm nN1B0_get_.symm] <;> simp only [encM_nil]) nB0B0_get_ h) (fun r22 => ?_)
    | with_reducible refine call_to_q (fun _ (h : file_File_Get f_0 (ix o12.l_ (out11.length : Int)) = some _) => file_File_Get_fe (B0 := B0) (B0_get_ := B0_get_) (by simp -implicitDefEqProofs only [go_sem, start, startE, resVs, resV, resC, allV, retK, Nat.reduceBEq, Nat.reduceAdd, Nat.reduceMul, Nat.reduceLeDiff, Nat.reduceEqDiff, Nat.reduceBNe, Nat.ble_eq, UInt8.reduceToNat, set_ne nB0B0_get_, set_ne nB0B0_get_.symm, set_comm nB0B0_get_, set_ne nN1B0, set_ne nN1B0.symm, set_comm nN1B0.symm, set_ne nN1B0_get_, set_ne nN1B0_get_.symm, set_comm nN1B0_get_.symm] <;> simp only [encM_nil]) (by simp -implicitDefEqProofs only [go_sem, start, startE, resVs, resV, resC, allV, retK, Nat.reduceBEq, Nat.reduceAdd, Nat.reduceMul, Nat.reduceLeDiff, Nat.reduceEqDiff, Nat.reduceBNe, Nat.ble_eq, UInt8.reduceToNat, set_ne nB0B0_get_, set_ne nB0B0_get_.symm, set_comm nB0B0_get_, set_ne nN1B0, set_ne nN1B0.symm, set_comm nN1B0.symm, set_ne nN1B0_get_, set_ne nN1B0_get_.symm, set_comm nN1B0_get_.symm] <;> simp only [encM_nil]) nB0B0_get_ h) (fun _ => rfl) (fun r22 => ?_)
    | with_reducible refine call_to (fun _ (h : file_File_Get f_0 (ix o12.l_ (out11.length : Int)) = some _) => file_File_Get_fe (B0 := B0) (B0_get_ := B0_get_) (by simp -implicitDefEqProofs only [go_sem, start, startE, resVs, resV, resC, allV, retK, Nat.reduceBEq, Nat.reduceAdd, Nat.reduceMul, Nat.reduceLeDiff, Nat.reduceEqDiff, Nat.reduceBNe, Nat.ble_eq, UInt8.reduceToNat, set_ne nB0B0_get_, set_ne nB0B0_get_.symm, set_comm nB0B0_get_] <;> simp only [encM_nil]) (by simp -implicitDefEqProofs only [go_sem, start, startE, resVs, resV, resC, allV, retK, Nat.reduceBEq, Nat.reduceAdd, Nat.reduceMul, Nat.reduceLeDiff, Nat.reduceEqDiff, Nat.reduceBNe, Nat.ble_eq, UInt8.reduceToNat, set_ne nB0B0_get_, set_ne nB0B0_get_.symm, set_comm nB0B0_get_] <;> simp only [encM_nil]) nB0B0_get_ h) (fun r22 => ?_)
    | with_reducible refine call_to_q (fun _ (h : file_File_Get f_0 (ix o12.l_ (out11.length : Int)) = some _) => file_File_Get_fe (B0 := B0) (B0_get_ := B0_get_) (by simp -implicitDefEqProofs only [go_sem, start, startE, resVs, resV, resC, allV, retK, Nat.reduceBEq, Nat.reduceAdd, Nat.reduceMul, Nat.reduceLeDiff, Nat.reduceEqDiff, Nat.reduceBNe, Nat.ble_eq, UInt8.reduceToNat, set_ne nB0B0_get_, set_ne nB0B0_get_.symm, set_comm nB0B0_get_] <;> simp only [encM_nil]) (by simp -implicitDefEqProofs only [go_sem, start, startE, resVs, resV, resC, allV, retK, Nat.reduceBEq, Nat.reduceAdd, Nat.reduceMul, Nat.reduceLeDiff, Nat.reduceEqDiff, Nat.reduceBNe, Nat.ble_eq, UInt8.reduceToNat, set_ne nB0B0_get_, set_ne nB0B0_get_.symm, set_comm nB0B0_get_] <;> simp only [encM_nil]) nB0B0_get_ h) (fun _ => rfl) (fun r22 => ?_)
    | with_reducible refine call_to (fun _ (h : reach_First r22.1.V l_1.Given = some _) => reach_First_fe h) (fun r28 => ?_)
    | with_reducible refine call_to_q (fun _ (h : reach_First r22.1.V l_1.Given = some _) => reach_First_fe h) (fun _ => rfl) (fun r28 => ?_)
    | with_reducible refine call_to (fun _ (h : reach_First r22.1.V l_1.Given = some _) => (by refine FE_cast ?_ (reach_First_fe h); simp -implicitDefEqProofs only [go_sem, start, startE, resVs, resV, resC, allV, retK, Nat.reduceBEq, Nat.reduceAdd, Nat.reduceMul, Nat.reduceLeDiff, Nat.reduceEqDiff, Nat.reduceBNe, Nat.ble_eq, UInt8.reduceToNat, set_ne nB0B0_get_, set_ne nB0B0_get_.symm, set_comm nB0B0_get_])) (fun r28 => ?_)
    | with_reducible refine call_to_q (fun _ (h : reach_First r22.1.V l_1.Given = some _) => (by refine FE_cast ?_ (reach_First_fe h); simp -implicitDefEqProofs only [go_sem, start, startE, resVs, resV, resC, allV, retK, Nat.reduceBEq, Nat.reduceAdd, Nat.reduceMul, Nat.reduceLeDiff, Nat.reduceEqDiff, Nat.reduceBNe, Nat.ble_eq, UInt8.reduceToNat, set_ne nB0B0_get_, set_ne nB0B0_get_.symm, set_comm nB0B0_get_])) (fun _ => rfl) (fun r28 => ?_)
    | with_reducible refine fun hh => reach_row_put_fn (B0 := N2) (B0_in_ := N1) (by simp -implicitDefEqProofs only [go_sem, start, startE, resVs, resV, resC, allV, retK, Nat.reduceBEq, Nat.reduceAdd, Nat.reduceMul, Nat.reduceLeDiff, Nat.reduceEqDiff, Nat.reduceBNe, Nat.ble_eq, UInt8.reduceToNat, set_ne nB0B0_get_, set_ne nB0B0_get_.symm, set_comm nB0B0_get_, set_ne nN1B0, set_ne nN1B0.symm, set_comm nN1B0.symm, set_ne nN1B0_get_, set_ne nN1B0_get_.symm, set_comm nN1B0_get_.symm, set_ne nN2B0, set_ne nN2B0.symm, set_comm nN2B0.symm, set_ne nN2B0_get_, set_ne nN2B0_get_.symm, set_comm nN2B0_get_.symm, set_ne nN2N1, set_ne nN2N1.symm, set_comm nN2N1.symm] <;> simp only [encM_nil]) (by simp -implicitDefEqProofs only [go_sem, start, startE, resVs, resV, resC, allV, retK, Nat.reduceBEq, Nat.reduceAdd, Nat.reduceMul, Nat.reduceLeDiff, Nat.reduceEqDiff, Nat.reduceBNe, Nat.ble_eq, UInt8.reduceToNat, set_ne nB0B0_get_, set_ne nB0B0_get_.symm, set_comm nB0B0_get_, set_ne nN1B0, set_ne nN1B0.symm, set_comm nN1B0.symm, set_ne nN1B0_get_, set_ne nN1B0_get_.symm, set_comm nN1B0_get_.symm, set_ne nN2B0, set_ne nN2B0.symm, set_comm nN2B0.symm, set_ne nN2B0_get_, set_ne nN2B0_get_.symm, set_comm nN2B0_get_.symm, set_ne nN2N1, set_ne nN2N1.symm, set_comm nN2N1.symm] <;> simp only [encM_nil]) nN2N1 (ok_mono (show ok (reach_row_put o12 r28) _ from hh) fun r29 => ?_)
    | with_reducible refine fun hh => FN_cast (by simp -implicitDefEqProofs only [go_sem, start, startE, resVs, resV, resC, allV, retK, Nat.reduceBEq, Nat.reduceAdd, Nat.reduceMul, Nat.reduceLeDiff, Nat.reduceEqDiff, Nat.reduceBNe, Nat.ble_eq, UInt8.reduceToNat, set_ne nB0B0_get_, set_ne nB0B0_get_.symm, set_comm nB0B0_get_, set_ne nN1B0, set_ne nN1B0.symm, set_comm nN1B0.symm, set_ne nN1B0_get_, set_ne nN1B0_get_.symm, set_comm nN1B0_get_.symm, set_ne nN2B0, set_ne nN2B0.symm, set_comm nN2B0.symm, set_ne nN2B0_get_, set_ne nN2B0_get_.symm, set_comm nN2B0_get_.symm, set_ne nN2N1, set_ne nN2N1.symm, set_comm nN2N1.symm]) (reach_row_put_fn (B0 := N2) (B0_in_ := N1) (by simp -implicitDefEqProofs only [go_sem, start, startE, resVs, resV, resC, allV, retK, Nat.reduceBEq, Nat.reduceAdd, Nat.reduceMul, Nat.reduceLeDiff, Nat.reduceEqDiff, Nat.reduceBNe, Nat.ble_eq, UInt8.reduceToNat, set_ne nB0B0_get_, set_ne nB0B0_get_.symm, set_comm nB0B0_get_, set_ne nN1B0, set_ne nN1B0.symm, set_comm nN1B0.symm, set_ne nN1B0_get_, set_ne nN1B0_get_.symm, set_comm nN1B0_get_.symm, set_ne nN2B0, set_ne nN2B0.symm, set_comm nN2B0.symm, set_ne nN2B0_get_, set_ne nN2B0_get_.symm, set_comm nN2B0_get_.symm, set_ne nN2N1, set_ne nN2N1.symm, set_comm nN2N1.symm] <;> simp only [encM_nil]) (by simp -implicitDefEqProofs only [go_sem, start, startE, resVs, resV, resC, allV, retK, Nat.reduceBEq, Nat.reduceAdd, Nat.reduceMul, Nat.reduceLeDiff, Nat.reduceEqDiff, Nat.reduceBNe, Nat.ble_eq, UInt8.reduceToNat, set_ne nB0B0_get_, set_ne nB0B0_get_.symm, set_comm nB0B0_get_, set_ne nN1B0, set_ne nN1B0.symm, set_comm nN1B0.symm, set_ne nN1B0_get_, set_ne nN1B0_get_.symm, set_comm nN1B0_get_.symm, set_ne nN2B0, set_ne nN2B0.symm, set_comm nN2B0.symm, set_ne nN2B0_get_, set_ne nN2B0_get_.symm, set_comm nN2B0_get_.symm, set_ne nN2N1, set_ne nN2N1.symm, set_comm nN2N1.symm] <;> simp only [encM_nil]) nN2N1 (ok_mono (show ok (reach_row_put o12 r28) _ from hh) fun r29 => ?_))
    | with_reducible refine call_to (fun _ (h : reach_Next r22.1.V = some _) => reach_Next_fe h) (fun r30 => ?_)
    | with_reducible refine call_to_q (fun _ (h : reach_Next r22.1.V = some _) => reach_Next_fe h) (fun _ => rfl) (fun r30 => ?_)
    | with_reducible refine call_to (fun _ (h : reach_Next r22.1.V = some _) => (by refine FE_cast ?_ (reach_Next_fe h); simp -implicitDefEqProofs only [go_sem, start, startE, resVs, resV, resC, allV, retK, Nat.reduceBEq, Nat.reduceAdd, Nat.reduceMul, Nat.reduceLeDiff, Nat.reduceEqDiff, Nat.reduceBNe, Nat.ble_eq, UInt8.reduceToNat, set_ne nB0B0_get_, set_ne nB0B0_get_.symm, set_comm nB0B0_get_])) (fun r30 => ?_)
    | with_reducible refine call_to_q (fun _ (h : reach_Next r22.1.V = some _) => (by refine FE_cast ?_ (reach_Next_fe h); simp -implicitDefEqProofs only [go_sem, start, startE, resVs, resV, resC, allV, retK, Nat.reduceBEq, Nat.reduceAdd, Nat.reduceMul, Nat.reduceLeDiff, Nat.reduceEqDiff, Nat.reduceBNe, Nat.ble_eq, UInt8.reduceToNat, set_ne nB0B0_get_, set_ne nB0B0_get_.symm, set_comm nB0B0_get_])) (fun _ => rfl) (fun r30 => ?_)
    | with_reducible refine fun hh => reach_row_put_fn (B0 := N2) (B0_in_ := N1) (by simp -implicitDefEqProofs only [go_sem, start, startE, resVs, resV, resC, allV, retK, Nat.reduceBEq, Nat.reduceAdd, Nat.reduceMul, Nat.reduceLeDiff, Nat.reduceEqDiff, Nat.reduceBNe, Nat.ble_eq, UInt8.reduceToNat, set_ne nB0B0_get_, set_ne nB0B0_get_.symm, set_comm nB0B0_get_, set_ne nN1B0, set_ne nN1B0.symm, set_comm nN1B0.symm, set_ne nN1B0_get_, set_ne nN1B0_get_.symm, set_comm nN1B0_get_.symm, set_ne nN2B0, set_ne nN2B0.symm, set_comm nN2B0.symm, set_ne nN2B0_get_, set_ne nN2B0_get_.symm, set_comm nN2B0_get_.symm, set_ne nN2N1, set_ne nN2N1.symm, set_comm nN2N1.symm] <;> simp only [encM_nil]) (by simp -implicitDefEqProofs only [go_sem, start, startE, resVs, resV, resC, allV, retK, Nat.reduceBEq, Nat.reduceAdd, Nat.reduceMul, Nat.reduceLeDiff, Nat.reduceEqDiff, Nat.reduceBNe, Nat.ble_eq, UInt8.reduceToNat, set_ne nB0B0_get_, set_ne nB0B0_get_.symm, set_comm nB0B0_get_, set_ne nN1B0, set_ne nN1B0.symm, set_comm nN1B0.symm, set_ne nN1B0_get_, set_ne nN1B0_get_.symm, set_comm nN1B0_get_.symm, set_ne nN2B0, set_ne nN2B0.symm, set_comm nN2B0.symm, set_ne nN2B0_get_, set_ne nN2B0_get_.symm, set_comm nN2B0_get_.symm, set_ne nN2N1, set_ne nN2N1.symm, set_comm nN2N1.symm] <;> simp only [encM_nil]) nN2N1 (ok_mono (show ok (reach_row_put o12 r30) _ from hh) fun r31 => ?_)
    | with_reducible refine fun hh => FN_cast (by simp -implicitDefEqProofs only [go_sem, start, startE, resVs, resV, resC, allV, retK, Nat.reduceBEq, Nat.reduceAdd, Nat.reduceMul, Nat.reduceLeDiff, Nat.reduceEqDiff, Nat.reduceBNe, Nat.ble_eq, UInt8.reduceToNat, set_ne nB0B0_get_, set_ne nB0B0_get_.symm, set_comm nB0B0_get_, set_ne nN1B0, set_ne nN1B0.symm, set_comm nN1B0.symm, set_ne nN1B0_get_, set_ne nN1B0_get_.symm, set_comm nN1B0_get_.symm, set_ne nN2B0, set_ne nN2B0.symm, set_comm nN2B0.symm, set_ne nN2B0_get_, set_ne nN2B0_get_.symm, set_comm nN2B0_get_.symm, set_ne nN2N1, set_ne nN2N1.symm, set_comm nN2N1.symm]) (reach_row_put_fn (B0 := N2) (B0_in_ := N1) (by simp -implicitDefEqProofs only [go_sem, start, startE, resVs, resV, resC, allV, retK, Nat.reduceBEq, Nat.reduceAdd, Nat.reduceMul, Nat.reduceLeDiff, Nat.reduceEqDiff, Nat.reduceBNe, Nat.ble_eq, UInt8.reduceToNat, set_ne nB0B0_get_, set_ne nB0B0_get_.symm, set_comm nB0B0_get_, set_ne nN1B0, set_ne nN1B0.symm, set_comm nN1B0.symm, set_ne nN1B0_get_, set_ne nN1B0_get_.symm, set_comm nN1B0_get_.symm, set_ne nN2B0, set_ne nN2B0.symm, set_comm nN2B0.symm, set_ne nN2B0_get_, set_ne nN2B0_get_.symm, set_comm nN2B0_get_.symm, set_ne nN2N1, set_ne nN2N1.symm, set_comm nN2N1.symm] <;> simp only [encM_nil]) (by simp -implicitDefEqProofs only [go_sem, start, startE, resVs, resV, resC, allV, retK, Nat.reduceBEq, Nat.reduceAdd, Nat.reduceMul, Nat.reduceLeDiff, Nat.reduceEqDiff, Nat.reduceBNe, Nat.ble_eq, UInt8.reduceToNat, set_ne nB0B0_get_, set_ne nB0B0_get_.symm, set_comm nB0B0_get_, set_ne nN1B0, set_ne nN1B0.symm, set_comm nN1B0.symm, set_ne nN1B0_get_, set_ne nN1B0_get_.symm, set_comm nN1B0_get_.symm, set_ne nN2B0, set_ne nN2B0.symm, set_comm nN2B0.symm, set_ne nN2B0_get_, set_ne nN2B0_get_.symm, set_comm nN2B0_get_.symm, set_ne nN2N1, set_ne nN2N1.symm, set_comm nN2N1.symm] <;> simp only [encM_nil]) nN2N1 (ok_mono (show ok (reach_row_put o12 r30) _ from hh) fun r31 => ?_))
    | ((with_reducible refine join_to (fun (o27 : reach_row) => ⟨[(0, .ref B0 0), (3, .loc [.int .i64 l_1.Page, .sl false 1 l_1.Path.length (flat l_1.Path), .int .i64 l_1.Given.Kind, .int .i64 l_1.Given.N, .str l_1.Given.S.b, .sl false 4 l_1.Given.L.length (flat l_1.Given.L)]), (8, .ref N2 0), (9, .sl true 6 out11.length (flat out11)), (10, .loc [.int .i64 r22.1.V.Kind, .int .i64 r22.1.V.N, .str r22.1.V.S.b, .sl false 4 r22.1.V.L.length (flat r22.1.V.L), .bool r22.1.Stream, .str r22.1.Data.b])], [], ((((s.set B0 (.cells [.int .i64 f_0.root_, .int .i64 f_0.count_, .fn 34 [] [.ref B0_get_ 0]])).set B0_get_ (.cells [.sl false 6 f_0.get_.Objects.length (flat f_0.get_.Objects), .int .i64 f_0.get_.Root])).set N1 (.map (encM ek_Int_Int ev_Int_Int o27.in_))).set N2 (.cells [.sl true 1 o27.l_.length (flat o27.l_), .mp N1]))⟩) (fun J => ?_) ?_); rotate_left; rintro o27)
    | ((with_reducible refine iter_to (fun ((out11, o12) : (List api_Object) × reach_row) => ⟨[(0, .ref B0 0), (3, .loc [.int .i64 l_1.Page, .sl false 1 l_1.Path.length (flat l_1.Path), .int .i64 l_1.Given.Kind, .int .i64 l_1.Given.N, .str l_1.Given.S.b, .sl false 4 l_1.Given.L.length (flat l_1.Given.L)]), (8, .ref N2 0), (9, .sl true 6 out11.length (flat out11))], [], ((((s.set B0 (.cells [.int .i64 f_0.root_, .int .i64 f_0.count_, .fn 34 [] [.ref B0_get_ 0]])).set B0_get_ (.cells [.sl false 6 f_0.get_.Objects.length (flat f_0.get_.Objects), .int .i64 f_0.get_.Root])).set N1 (.map (encM ek_Int_Int ev_Int_Int o12.in_))).set N2 (.cells [.sl true 1 o12.l_.length (flat o12.l_), .mp N1]))⟩) ?_ ?_); (first | exact rfl | simp -implicitDefEqProofs only [go_sem, start, startE, resVs, resV, resC, allV, retK, Nat.reduceBEq, Nat.reduceAdd, Nat.reduceMul, Nat.reduceLeDiff, Nat.reduceEqDiff, Nat.reduceBNe, Nat.ble_eq, UInt8.reduceToNat, set_ne nB0B0_get_, set_ne nB0B0_get_.symm, set_comm nB0B0_get_, set_ne nN1B0, set_ne nN1B0.symm, set_comm nN1B0.symm, set_ne nN1B0_get_, set_ne nN1B0_get_.symm, set_comm nN1B0_get_.symm, set_ne nN2B0, set_ne nN2B0.symm, set_comm nN2B0.symm, set_ne nN2B0_get_, set_ne nN2B0_get_.symm, set_comm nN2B0_get_.symm, set_ne nN2N1, set_ne nN2N1.symm, set_comm nN2N1.symm]); rintro J ⟨out11, o12⟩)
    | ((with_reducible refine join_toS (fun ((out2, o4) : (List api_Object) × reach_row) => ⟨[(8, .ref N2 0), (9, .sl true 6 out2.length (flat out2))], [], ((((s.set B0 (.cells [.int .i64 f_0.root_, .int .i64 f_0.count_, .fn 34 [] [.ref B0_get_ 0]])).set B0_get_ (.cells [.sl false 6 f_0.get_.Objects.length (flat f_0.get_.Objects), .int .i64 f_0.get_.Root])).set N1 (.map (encM ek_Int_Int ev_Int_Int o4.in_))).set N2 (.cells [.sl true 1 o4.l_.length (flat o4.l_), .mp N1]))⟩) (fun J => ?_) ?_); rotate_left; rintro ⟨out2, o4⟩)
    | ((fail_if_success (have _x := sN1)); with_reducible intro hh N1 hN1; (try simp only [set_none] at hN1); obtain ⟨nN1B0_get_, nN1B0, sN1⟩ := hN1; revert hh)
    | (have _x := sN1; clear _x; (fail_if_success (have _x := sN2)); with_reducible intro hh N2 hN2; (try simp only [set_none] at hN2); obtain ⟨nN2N1, nN2B0_get_, nN2B0, sN2⟩ := hN2; revert hh)
    | with_reducible exact fun hh => ⟨_, SubS.set (SubS.set (SubS.refl _) (by simp [Store.set, nN1B0, nN1B0_get_, sN1])) (by simp [Store.set, nN2B0, nN2B0_get_, sN2]), hh⟩
    | with_reducible exact fun hh => ⟨_, SubS.set (SubS.refl _) (by simp [Store.set, nN1B0, nN1B0_get_, sN1]), hh⟩
    | with_reducible exact fun hh => ⟨_, SubS.refl _, hh⟩
    | simp -implicitDefEqProofs only [go_sem, start, startE, resVs, resV, resC, allV, retK, Nat.reduceBEq, Nat.reduceAdd, Nat.reduceMul, Nat.reduceLeDiff, Nat.reduceEqDiff, Nat.reduceBNe, Nat.ble_eq, UInt8.reduceToNat, set_ne nB0B0_get_, set_ne nB0B0_get_.symm, set_comm nB0B0_get_, set_ne nN1B0, set_ne nN1B0.symm, set_comm nN1B0.symm, set_ne nN1B0_get_, set_ne nN1B0_get_.symm, set_comm nN1B0_get_.symm, set_ne nN2B0, set_ne nN2B0.symm, set_comm nN2B0.symm, set_ne nN2B0_get_, set_ne nN2B0_get_.symm, set_comm nN2B0_get_.symm, set_ne nN2N1, set_ne nN2N1.symm, set_comm nN2N1.symm]
    | simp -implicitDefEqProofs only [go_sem, start, startE, resVs, resV, resC, allV, retK, Nat.reduceBEq, Nat.reduceAdd, Nat.reduceMul, Nat.reduceLeDiff, Nat.reduceEqDiff, Nat.reduceBNe, Nat.ble_eq, UInt8.reduceToNat, set_ne nB0B0_get_, set_ne nB0B0_get_.symm, set_comm nB0B0_get_, set_ne nN1B0, set_ne nN1B0.symm, set_comm nN1B0.symm, set_ne nN1B0_get_, set_ne nN1B0_get_.symm, set_comm nN1B0_get_.symm]
    | simp -implicitDefEqProofs only [go_sem, start, startE, resVs, resV, resC, allV, retK, Nat.reduceBEq, Nat.reduceAdd, Nat.reduceMul, Nat.reduceLeDiff, Nat.reduceEqDiff, Nat.reduceBNe, Nat.ble_eq, UInt8.reduceToNat, set_ne nB0B0_get_, set_ne nB0B0_get_.symm, set_comm nB0B0_get_])
theorem reach_Closure_fe {f_0 l_1} {B0 B0_get_ : Nat} {s : Store} {r : (List Int) × (List api_Object) × Int × Int} (hB0 : s B0 = some (.cells [.int .i64 f_0.root_, .int .i64 f_0.count_, .fn 34 [] [.ref B0_get_ 0]])) (hB0_get_ : s B0_get_ = some (.cells [.sl false 6 f_0.get_.Objects.length (flat f_0.get_.Objects), .int .i64 f_0.get_.Root])) (nB0B0_get_ : B0 ≠ B0_get_) (h : reach_Closure f_0 l_1 = some r) : FE Go.Proofs.Tryz.prog 9 [.ref B0 0, .agg [.int .i64 l_1.Page, .sl false 1 l_1.Path.length (flat l_1.Path), .int .i64 l_1.Given.Kind, .int .i64 l_1.Given.N, .str l_1.Given.S.b, .sl false 4 l_1.Given.L.length (flat l_1.Given.L)]] s [.sl true 1 r.1.length (flat r.1), .sl true 6 r.2.1.length (flat r.2.1), .int .i64 r.2.2.1, .int .i64 r.2.2.2] s := reach_Closure_fn hB0 hB0_get_ nB0B0_get_ ⟨r, h, rfl, rfl⟩
/-- catchword/catchwordref21.Same -/
def ref21_Same (a_0 : (List Int)) (b_1 : (List Int)) : Option (Bool) :=
  if (a_0.length : Int) != (b_1.length : Int) then
    some false
  else
    jnS (
      bndS (
        iter (fun (k2 : Int) =>
          if decide (k2 < (a_0.length : Int)) then
            need (0 ≤ k2 ∧ k2 < a_0.length) <|
            need (0 ≤ k2 ∧ k2 < b_1.length) <|
            if (ix a_0 k2) != (ix b_1 k2) then
              some (.inr (.inr false))
            else
              some (.inl (w64 (k2 + 1)))
          else
            some (.inr (.inl ()))) 0) (fun (_ : Unit) =>
        some (.inl ()))
      (fun (t3 : Bool) => some (.inr t3))) (fun (_ : Unit) =>
      some true)
    (fun (t1 : Bool) => some t1)
def ir_ref21_Same : IC :=
 (.seq (.reg none [i1 4 (.mov false (.c (.bool false)))] [0, 1])
 (.seq (.seq (.reg none [mv 6 0,
 i1 7 (.len 0 (.t 6)),
 mv 8 1,
 i1 9 (.len 0 (.t 8)),
 i1 10 (.bin .neq (.t 7) (.t 9))] [0, 1, 10])
 (.cond (.t 10) (.seq (.reg none [i1 4 (.mov false (.c (.bool false)))] [4])
 .ret)
 .skip))
 (.join [] (.seq (.reg none [i1 5 (.mov false (.c (.int .i64 0)))] [0, 1, 5])
 (.block 0 (.loop [(0, true), (1, true), (5, false)] (.seq (.seq (.reg none [mv 11 5,
 mv 12 0,
 i1 13 (.len 0 (.t 12)),
 i1 14 (.bin .lss (.t 11) (.t 13))] [0, 1, 5, 14])
 (.cond (.t 14) .skip
 (.exit 0)))
 (.seq (.block 1 (.seq (.reg (some 9) [mv 17 0,
 mv 18 5,
 i1 19 (.indexAddr [.int .i64 0] (.t 17) (.t 18)),
 i1 20 (.load 1 false (.t 19)),
 mv 21 1,
 mv 22 5,
 i1 23 (.indexAddr [.int .i64 0] (.t 21) (.t 22)),
 i1 24 (.load 1 false (.t 23)),
 i1 25 (.bin .neq (.t 20) (.t 24))] [0, 1, 5, 25])
 (.cond (.t 25) (.seq (.reg none [i1 4 (.mov false (.c (.bool false)))] [4])
 .ret)
 .skip)))
 (.reg none [mv 15 5,
 i1 16 (.bin .add (.t 15) (.c (.int .i64 1))),
 mv 5 16] [0, 1, 5]))))))
 (.seq (.reg none [i1 4 (.mov false (.c (.bool true)))] [4])
 .ret))))
def res_ref21_Same : List IRes := [⟨4, true, none⟩]
theorem is_ref21_Same : fnIs Go.Proofs.Tryz.prog 14 26 res_ref21_Same ir_ref21_Same = true := by kernel_rfl
theorem ref21_Same_fn {a_0 b_1} {s : Store} {Q : List AV → Store → Prop}  : ok (ref21_Same a_0 b_1) (fun r => Q [.bool r] s) → FN Go.Proofs.Tryz.prog 14 [.sl false 1 a_0.length (flat a_0), .sl false 1 b_1.length (flat b_1)] s Q := by
  intro h
  refine FN.of (draw_ok mix) is_ref21_Same rfl (Nat.le_of_ble_eq_true rfl) ?_
  revert h
  rw [ir_ref21_Same, res_ref21_Same, ref21_Same]
  repeat' (first
    | with_reducible exact tt_to
    | with_reducible refine and_to ?_ ?_
    | with_reducible refine im_to ?_
    | ((with_reducible refine iter_to (fun (k2 : Int) => ⟨[(0, .sl false 1 a_0.length (flat a_0)), (1, .sl false 1 b_1.length (flat b_1)), (5, .int .i64 k2)], [], s⟩) ?_ ?_); (first | exact rfl | simp -implicitDefEqProofs only [go_sem, start, startE, resVs, resV, resC, allV, retK, Nat.reduceBEq, Nat.reduceAdd, Nat.reduceMul, Nat.reduceLeDiff, Nat.reduceEqDiff, Nat.reduceBNe, Nat.ble_eq, UInt8.reduceToNat]); rintro J k2)
    | ((with_reducible refine join_toS (fun (_ : Unit) => ⟨[], [], s⟩) (fun J => ?_) ?_); rotate_left; rintro _)
    | simp -implicitDefEqProofs only [go_sem, start, startE, resVs, resV, resC, allV, retK, Nat.reduceBEq, Nat.reduceAdd, Nat.reduceMul, Nat.reduceLeDiff, Nat.reduceEqDiff, Nat.reduceBNe, Nat.ble_eq, UInt8.reduceToNat])
theorem ref21_Same_fe {a_0 b_1} {s : Store} {r : Bool}  (h : ref21_Same a_0 b_1 = some r) : FE Go.Proofs.Tryz.prog 14 [.sl false 1 a_0.length (flat a_0), .sl false 1 b_1.length (flat b_1)] s [.bool r] s := ref21_Same_fn   ⟨r, h, rfl, rfl⟩
end Go.AB
end
