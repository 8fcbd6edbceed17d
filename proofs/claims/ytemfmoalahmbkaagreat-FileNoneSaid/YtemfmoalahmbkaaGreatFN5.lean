/- A part of the proof: Lx, Ps, Pk, Pw, Pn. -/
import Derived.Test.YtemfmoalahmbkaaGreatFN4
set_option linter.unusedSimpArgs false
set_option linter.unusedVariables false
section
set_option maxRecDepth 4000
namespace Go.AB
open Go
structure api_Value where
  Kind : Int
  N : Int
  S : Str
  L : (List api_Value)
mutual
def api_ValueC : api_Value → List AV
  | ⟨k, n, s, l⟩ => [.int .i64 k, .int .i64 n, .str s.b, .sl false 4 l.length (api_ValueL l)]
def api_ValueL : List api_Value → List AV
  | [] => []
  | v :: l => api_ValueC v ++ api_ValueL l
end
theorem api_ValueC_v (x : api_Value) : views (api_ValueC x) = api_ValueC x := by cases x; simp [api_ValueC, views, view]
theorem api_ValueC_l (x : api_Value) : (api_ValueC x).length = 4 := by cases x; simp [api_ValueC]
instance : Enc api_Value := ⟨4, api_ValueC, ⟨0, 0, ⟨[]⟩, []⟩, by decide, api_ValueC_l, api_ValueC_v⟩
theorem api_ValueL_flat : ∀ l : List api_Value, api_ValueL l = flat l
  | [] => by rw [api_ValueL]; rfl
  | v :: l => by rw [api_ValueL, api_ValueL_flat l]; rfl
@[go_sem] theorem cells_api_Value (x : api_Value) : Enc.cells x = [.int .i64 x.Kind, .int .i64 x.N, .str x.S.b, .sl false 4 x.L.length (flat x.L)] := by
  cases x
  show api_ValueC _ = _
  rw [api_ValueC, api_ValueL_flat]
@[go_sem] theorem w_api_Value : Enc.w api_Value = 4 := rfl
@[go_sem] theorem pad_api_Value (l : List api_Value) (i : Int) : pad [.int .i64 0, .int .i64 0, .str [], .sl false 4 0 []] (views (AB.sub (flat l) (i.toNat * 4) 4)) = [.int .i64 ((ix l i).Kind), .int .i64 ((ix l i).N), .str ((ix l i).S).b, .sl false 4 ((ix l i).L).length (flat ((ix l i).L))] := by
  rw [← cells_api_Value]; exact flat_pad _ 4 l i (by rw [cells_api_Value]; rfl) rfl
@[go_sem] theorem mk_api_Value (x : api_Value) : api_Value.mk x.Kind x.N x.S x.L = x := by cases x; rfl
attribute [-go_sem] xwp_cons xwpK_eq xalt_cons xalt_nil
theorem x_to {P : Program} {X : Prop} {deps : List (List Bool)} {ops f : List IOper} {live : List Nat} {Q : Exit → St → Prop} {d : List Bool} {σ φ : St}
    (h1 : ∀ Q' : St → Prop, Q' φ → xwp P deps ops (fun τ => Q' (τ.keep live)) f d σ) (h2 : X → Q .normal φ) : X → xwp P deps ops (regK live Q) f d σ := fun x => h1 (fun τ => Q .normal τ) (h2 x)
@[go_sem] theorem ble11 : Nat.ble 1 1 = true := rfl
@[go_sem] theorem ble12 : Nat.ble 1 2 = true := rfl
@[go_sem] theorem ble13 : Nat.ble 1 3 = true := rfl
@[go_sem] theorem ble14 : Nat.ble 1 4 = true := rfl
@[go_sem] theorem ble16 : Nat.ble 1 6 = true := rfl
@[go_sem] theorem part0_V (l : List api_Value) (hi : Int) : AB.sub (flat l) 0 (hi.toNat * 4) = flat (part l 0 hi) := by
  have := flat_part 4 l 0 hi rfl
  rw [Int.sub_zero] at this
  exact this
@[go_sem] theorem part0 {α : Type} [Enc α] (n : Nat) (l : List α) (hi : Int) (hn : n = Enc.w α) : AB.sub (flat l) 0 (hi.toNat * n) = flat (part l 0 hi) := by
  have := flat_part n l 0 hi hn
  rwa [Int.sub_zero, show ((0 : Int).toNat * n) = 0 from by simp] at this
theorem call_to_gv {β : Type} {g : Bool} {z : β} {o : Option β} {kf : β → Prop} {P : Program} {f : FuncId} {as2 : List AV} {s : Store} {enc : β → List AV} {Q : List AV → Prop} {C : FuncId → List AV → Prop}
    (ha : g = true → C f as2) (hok : fnOK P f = true) (hf : ∀ r, o = some r → FE P f as2 s (enc r) s) (hr : ∀ r, rsOK (enc r) = true) (hk : ∀ r, kf r → Q (enc r)) :
    ok (whenB g z o) kf → ∃ rs, rsOK rs = true ∧ (g = true → ∃ f as2, C f as2 ∧ fnOK P f = true ∧ FE P f as2 s rs s) ∧ Q rs := fun h => by
  rw [ok_when] at h
  obtain ⟨r, h1, _, k⟩ := h
  exact ⟨enc r, hr r, fun hg => ⟨f, as2, ha hg, hok, hf r (h1 hg)⟩, hk r k⟩
theorem callee_w {t : Nat} {args : List IX} {b : Bool} {σ : St} {f : FuncId} {as2 : List AV} (h : σ.x (.t t) = .when b (.fn f [] [])) (ha : argsV (xg b σ) args = some as2) : callee (.t t) args b σ f as2 :=
  ⟨[], [], as2, by unfold xg; rw [h]; cases b <;> rfl, ha, by simp⟩
@[go_sem] theorem ix_toNat {α : Type} [Enc α] (l : List α) (i : Int) : ix l ((i.toNat : Nat) : Int) = ix l i := rfl
@[go_sem] theorem pad_int_n (l : List Int) (n : Nat) : pad [.int .i64 0] (views (AB.sub (flat l) (n * 1) 1)) = [.int .i64 (ix l (n : Int))] := pad_int l n
theorem FN_cast {P : Program} {f : FuncId} {as1 as2 : List AV} {s : Store} {Q : List AV → Store → Prop} (e : as1 = as2) (h : FN P f as1 s Q) : FN P f as2 s Q := e ▸ h
theorem im_and {c p : Bool} {A : Prop} (h : p = true → A) : (c && p) = true → A := fun hh => h (by cases c <;> simp_all)
theorem lit_t {X A B : Prop} (h : X → A) : X → (true = true → A) ∧ (true = false → B) := fun x => ⟨fun _ => h x, fun e => (by cases e)⟩
theorem lit_f {X A B : Prop} (h : X → B) : X → (false = true → A) ∧ (false = false → B) := fun x => ⟨fun e => (by cases e), fun _ => h x⟩
theorem lit_t2 {X A B : Prop} (h : X → A) : X → (True → A) ∧ (true = false → B) := fun x => ⟨fun _ => h x, fun e => (by cases e)⟩
theorem lit_f2 {X A B : Prop} (h : X → B) : X → (false = true → A) ∧ (True → B) := fun x => ⟨fun e => (by cases e), fun _ => h x⟩
def strings_Builder_WriteByte (b : Bld) (c : UInt8) : Option Bld := none
theorem strings_Builder_WriteByte_fn {b_0 : Bld} {c_1 : UInt8} {B0 : Nat} {preB0 postB0 : List AV} {oB0 : Nat} {s : Store} {Q : List AV → Store → Prop} (hB0 : s B0 = some (.cells (Wi preB0 [b_0.a, b_0.b] postB0))) (eB0 : preB0.length = oB0) :
    ok (strings_Builder_WriteByte b_0 c_1) (fun r => Q [.one] (s.set B0 (.cells (Wi preB0 [r.a, r.b] postB0)))) → FN Go.Proofs.Tryz.prog 301 [.ref B0 oB0, .int .u8 c_1.toNat] s Q := fun ⟨_, h, _⟩ => by cases h
def strings_Builder_String (b : Bld) : Option (Str × Bld) := none
theorem strings_Builder_String_fn {b_0 : Bld} {B0 : Nat} {preB0 postB0 : List AV} {oB0 : Nat} {s : Store} {Q : List AV → Store → Prop} (hB0 : s B0 = some (.cells (Wi preB0 [b_0.a, b_0.b] postB0))) (eB0 : preB0.length = oB0) :
    ok (strings_Builder_String b_0) (fun r => Q [.str r.1.b] (s.set B0 (.cells (Wi preB0 [r.2.a, r.2.b] postB0)))) → FN Go.Proofs.Tryz.prog 300 [.ref B0 oB0] s Q := fun ⟨_, h, _⟩ => by cases h
structure lex_scan where
  Builder : Bld
  b_ : (List UInt8)
  at_ : Int
  last_ : Bool
def lex_scan_octal (s_0 : lex_scan) (x_1 : UInt8) : Option (Bool × lex_scan) := none
theorem lex_scan_octal_fn {s_0 : lex_scan} {x_1 : UInt8} {B0 : Nat} {s : Store} {Q : List AV → Store → Prop} (hB0 : s B0 = some (.cells [s_0.Builder.a, s_0.Builder.b, .sl false 1 s_0.b_.length (flat s_0.b_), .int .i64 s_0.at_, .bool s_0.last_])) : ok (lex_scan_octal s_0 x_1) (fun r => Q [.bool r.1] (s.set B0 (.cells [r.2.Builder.a, r.2.Builder.b, .sl false 1 r.2.b_.length (flat r.2.b_), .int .i64 r.2.at_, .bool r.2.last_]))) → FN Go.Proofs.Tryz.prog 332 [.ref B0 0, .int .u8 x_1.toNat] s Q := fun ⟨_, h, _⟩ => by cases h
def lex_name (x_0 : Str) : Option (api_Value × Int) := none
theorem lex_name_fn {x_0 : Str} {s : Store} {Q : List AV → Store → Prop} : ok (lex_name x_0) (fun r => Q [.agg [.int .i64 r.1.Kind, .int .i64 r.1.N, .str r.1.S.b, .sl false 4 r.1.L.length (flat r.1.L)], .int .i64 r.2] s) → FN Go.Proofs.Tryz.prog 261 [.str x_0.b] s Q := fun ⟨_, h, _⟩ => by cases h
theorem lex_name_fe {x_0 : Str} {s : Store} {r : api_Value × Int} (h : lex_name x_0 = some r) : FE Go.Proofs.Tryz.prog 261 [.str x_0.b] s [.agg [.int .i64 r.1.Kind, .int .i64 r.1.N, .str r.1.S.b, .sl false 4 r.1.L.length (flat r.1.L)], .int .i64 r.2] s := lex_name_fn ⟨r, h, rfl, rfl⟩
structure lex_Token where
  Kind : Int
  From : Int
  To : Int
  V : api_Value
  S : Str
instance : Enc lex_Token := ⟨8, fun x => [.int .i64 x.Kind, .int .i64 x.From, .int .i64 x.To, .int .i64 x.V.Kind, .int .i64 x.V.N, .str x.V.S.b, .sl false 4 x.V.L.length (flat x.V.L), .str x.S.b], (lex_Token.mk 0 0 0 (api_Value.mk 0 0 (Str.mk []) []) (Str.mk [])), by decide, fun _ => rfl, fun _ => rfl⟩
@[go_sem] theorem cells_lex_Token (x : lex_Token) : Enc.cells x = [.int .i64 x.Kind, .int .i64 x.From, .int .i64 x.To, .int .i64 x.V.Kind, .int .i64 x.V.N, .str x.V.S.b, .sl false 4 x.V.L.length (flat x.V.L), .str x.S.b] := rfl
@[go_sem] theorem w_lex_Token : Enc.w lex_Token = 8 := rfl
@[go_sem] theorem pad_lex_Token (l : List lex_Token) (i : Int) : pad [.int .i64 0, .int .i64 0, .int .i64 0, .int .i64 0, .int .i64 0, .str [], .sl false 4 0 [], .str []] (views (AB.sub (flat l) (i.toNat * 8) 8)) = [.int .i64 ((ix l i).Kind), .int .i64 ((ix l i).From), .int .i64 ((ix l i).To), .int .i64 (((ix l i).V).Kind), .int .i64 (((ix l i).V).N), .str (((ix l i).V).S).b, .sl false 4 (((ix l i).V).L).length (flat (((ix l i).V).L)), .str ((ix l i).S).b] := by
  rw [← cells_lex_Token]; exact flat_pad _ 8 l i (by rw [cells_lex_Token]; rfl) rfl
@[go_sem] theorem mk_lex_Token (x : lex_Token) : lex_Token.mk x.Kind x.From x.To x.V x.S = x := by cases x; rfl
def lex_Space (c_0 : UInt8) : Option (Bool) :=
  some (((((((c_0.toNat : Int) == 0) || ((c_0.toNat : Int) == 9)) || ((c_0.toNat : Int) == 10)) || ((c_0.toNat : Int) == 12)) || ((c_0.toNat : Int) == 13)) || ((c_0.toNat : Int) == 32))
def ir_lex_Space : IC :=
 (.seq (.reg none [i1 2 (.mov false (.c (.bool false)))] [0])
 (.seq (.reg none [mv 3 0,
 i1 4 (.bin .eql (.t 3) (.c (.int .u8 0))),
 mv 5 4,
 mvg 6 0 5 false,
 i1g 7 5 false (.bin .eql (.t 6) (.c (.int .u8 9))),
 i1 8 (.pick (.t 5) (.c (.bool true)) (.t 7)),
 mv 9 8,
 mvg 10 0 9 false,
 i1g 11 9 false (.bin .eql (.t 10) (.c (.int .u8 10))),
 i1 12 (.pick (.t 9) (.c (.bool true)) (.t 11)),
 mv 13 12,
 mvg 14 0 13 false,
 i1g 15 13 false (.bin .eql (.t 14) (.c (.int .u8 12))),
 i1 16 (.pick (.t 13) (.c (.bool true)) (.t 15)),
 mv 17 16,
 mvg 18 0 17 false,
 i1g 19 17 false (.bin .eql (.t 18) (.c (.int .u8 13))),
 i1 20 (.pick (.t 17) (.c (.bool true)) (.t 19)),
 mv 21 20,
 mvg 22 0 21 false,
 i1g 23 21 false (.bin .eql (.t 22) (.c (.int .u8 32))),
 i1 24 (.pick (.t 21) (.c (.bool true)) (.t 23)),
 mv 2 24] [2])
 .ret))
def res_lex_Space : List IRes := [⟨2, true, none⟩]
theorem is_lex_Space : fnIs Go.Proofs.Tryz.prog 130 25 res_lex_Space ir_lex_Space = true := by kernel_rfl
theorem lex_Space_fn {c_0} {s : Store} {Q : List AV → Store → Prop}  : ok (lex_Space c_0) (fun r => Q [.bool r] s) → FN Go.Proofs.Tryz.prog 130 [.int .u8 c_0.toNat] s Q := by
  intro h
  refine FN.of (draw_ok mix) is_lex_Space rfl (Nat.le_of_ble_eq_true rfl) ?_
  revert h
  rw [ir_lex_Space, res_lex_Space, lex_Space]
  repeat' (first
    | with_reducible exact tt_to
    | with_reducible refine and_to ?_ ?_
    | with_reducible exact im_and
    | with_reducible refine im_to ?_
    | simp -implicitDefEqProofs only [go_sem, start, startE, resVs, resV, resC, allV, retK, Nat.reduceBEq, Nat.reduceAdd, Nat.reduceMul, Nat.reduceLeDiff, Nat.reduceEqDiff, Nat.reduceBNe, Nat.ble_eq, UInt8.reduceToNat, UInt32.reduceToNat])
theorem lex_Space_fe {c_0} {s : Store} {r : Bool}  (h : lex_Space c_0 = some r) : FE Go.Proofs.Tryz.prog 130 [.int .u8 c_0.toNat] s [.bool r] s := lex_Space_fn  ⟨r, h, rfl, rfl⟩
def lex_Skip (b_0 : (List UInt8)) (at_1 : Int) : Option (Int) :=
  if decide (at_1 < 0) then
    some 0
  else
    jnS (
      bndS (
        iter (fun ((at3, comment4) : Int × Bool) =>
          if decide (at3 < (b_0.length : Int)) then
            jnS (
              need (0 ≤ at3 ∧ at3 < b_0.length) <|
              if comment4 then
                some (.inl ((((ix b_0 at3).toNat : Int) != 10) && (((ix b_0 at3).toNat : Int) != 13)))
              else
                if ((ix b_0 at3).toNat : Int) == 37 then
                  some (.inl true)
                else
                  bnd (lex_Space (ix b_0 at3)) fun r11 =>
                  if !r11 then
                    some (.inr at3)
                  else
                    some (.inl comment4)) (fun (comment9 : Bool) =>
              some (.inl (w64 (at3 + 1), comment9)))
            (fun (t10 : Int) => some (.inr (.inr t10)))
          else
            some (.inr (.inl ()))) (at_1, false)) (fun (_ : Unit) =>
        some (.inl ()))
      (fun (t6 : Int) => some (.inr t6))) (fun (_ : Unit) =>
      some (b_0.length : Int))
    (fun (t2 : Int) => some t2)
def ir_lex_Skip : IC :=
 (.seq (.reg none [i1 4 (.mov false (.c (.int .i64 0)))] [0, 1])
 (.seq (.seq (.reg none [mv 7 1,
 i1 8 (.bin .lss (.t 7) (.c (.int .i64 0)))] [0, 1, 8])
 (.cond (.t 8) (.seq (.reg none [i1 4 (.mov false (.c (.int .i64 0)))] [4])
 .ret)
 .skip))
 (.seq (.reg none [i1 5 (.mov false (.c (.bool false)))] [0, 1, 5])
 (.join [(0, true)] (.block 0 (.loop [(0, true), (1, false), (5, false)] (.seq (.seq (.reg none [mv 9 1,
 mv 10 0,
 i1 11 (.len 0 (.t 10)),
 i1 12 (.bin .lss (.t 9) (.t 11))] [0, 1, 5, 12])
 (.cond (.t 12) .skip
 (.exit 0)))
 (.join [(0, true), (1, false), (5, false)] (.block 1 (.seq (.reg none [mv 15 0,
 mv 16 1,
 i1 17 (.indexAddr [.int .u8 0] (.t 15) (.t 16)),
 i1 18 (.load 1 false (.t 17)),
 mv 6 18] [0, 1, 5, 6])
 (.block 2 (.seq (.reg none [mv 20 5,
 mv 19 20] [0, 1, 5, 6, 19])
 (.cond (.t 19) (.reg none [mv 21 6,
 i1 22 (.bin .neq (.t 21) (.c (.int .u8 10))),
 mv 23 22,
 mvg 24 6 23 true,
 i1g 25 23 true (.bin .neq (.t 24) (.c (.int .u8 13))),
 i1 26 (.pick (.t 23) (.t 25) (.c (.bool false))),
 mv 5 26] [0, 1, 5])
 (.seq (.reg none [mv 28 6,
 i1 29 (.bin .eql (.t 28) (.c (.int .u8 37))),
 mv 27 29] [0, 1, 5, 6, 27])
 (.cond (.t 27) (.reg none [i1 5 (.mov false (.c (.bool true)))] [0, 1, 5])
 (.seq (.reg none [mv 31 6,
 i1 32 (.call 130 [(.t 31)]),
 i1 33 (.un .not (.t 32)),
 mv 30 33] [0, 1, 5, 30])
 (.cond (.t 30) (.seq (.reg none [mv 34 1,
 mv 4 34] [4])
 .ret)
 .skip)))))))))
 (.reg none [mv 13 1,
 i1 14 (.bin .add (.t 13) (.c (.int .i64 1))),
 mv 1 14] [0, 1, 5])))))
 (.seq (.reg none [mt 35 0,
 i1 36 (.len 0 (.t 35)),
 mv 4 36] [4])
 .ret)))))
def res_lex_Skip : List IRes := [⟨4, true, none⟩]
theorem is_lex_Skip : fnIs Go.Proofs.Tryz.prog 225 37 res_lex_Skip ir_lex_Skip = true := by kernel_rfl
theorem lex_Skip_fn {b_0 at_1} {s : Store} {Q : List AV → Store → Prop}  : ok (lex_Skip b_0 at_1) (fun r => Q [.int .i64 r] s) → FN Go.Proofs.Tryz.prog 225 [.sl false 1 b_0.length (flat b_0), .int .i64 at_1] s Q := by
  intro h
  refine FN.of (draw_ok mix) is_lex_Skip rfl (Nat.le_of_ble_eq_true rfl) ?_
  revert h
  rw [ir_lex_Skip, res_lex_Skip, lex_Skip]
  repeat' (first
    | with_reducible exact tt_to
    | with_reducible refine and_to ?_ ?_
    | with_reducible exact im_and
    | with_reducible refine im_to ?_
    | with_reducible refine call_to (fun _ (h : lex_Space (ix b_0 at3) = some _) => lex_Space_fe h) (fun r11 => ?_)
    | with_reducible refine call_to_q (fun _ (h : lex_Space (ix b_0 at3) = some _) => lex_Space_fe h) (fun _ => rfl) (fun r11 => ?_)
    | with_reducible refine call_to (fun _ (h : lex_Space (ix b_0 at3) = some _) => (by refine FE_cast ?_ (lex_Space_fe h); simp -implicitDefEqProofs only [go_sem, start, startE, resVs, resV, resC, allV, retK, Nat.reduceBEq, Nat.reduceAdd, Nat.reduceMul, Nat.reduceLeDiff, Nat.reduceEqDiff, Nat.reduceBNe, Nat.ble_eq, UInt8.reduceToNat, UInt32.reduceToNat])) (fun r11 => ?_)
    | with_reducible refine call_to_q (fun _ (h : lex_Space (ix b_0 at3) = some _) => (by refine FE_cast ?_ (lex_Space_fe h); simp -implicitDefEqProofs only [go_sem, start, startE, resVs, resV, resC, allV, retK, Nat.reduceBEq, Nat.reduceAdd, Nat.reduceMul, Nat.reduceLeDiff, Nat.reduceEqDiff, Nat.reduceBNe, Nat.ble_eq, UInt8.reduceToNat, UInt32.reduceToNat])) (fun _ => rfl) (fun r11 => ?_)
    | ((with_reducible refine join_toS (live := [(0, true), (1, false), (5, false)]) (fun (comment9 : Bool) => ⟨[(0, .sl false 1 b_0.length (flat b_0)), (1, .int .i64 at3), (5, .bool comment9)], [], s⟩) (fun J => ?_) ?_); rotate_left; rintro comment9)
    | ((with_reducible refine iter_to (fun ((at3, comment4) : Int × Bool) => ⟨[(0, .sl false 1 b_0.length (flat b_0)), (1, .int .i64 at3), (5, .bool comment4)], [], s⟩) ?_ ?_); (first | exact rfl | simp -implicitDefEqProofs only [go_sem, start, startE, resVs, resV, resC, allV, retK, Nat.reduceBEq, Nat.reduceAdd, Nat.reduceMul, Nat.reduceLeDiff, Nat.reduceEqDiff, Nat.reduceBNe, Nat.ble_eq, UInt8.reduceToNat, UInt32.reduceToNat]); rintro J ⟨at3, comment4⟩)
    | ((with_reducible refine join_toS (live := [(0, true)]) (fun (_ : Unit) => ⟨[(0, .sl false 1 b_0.length (flat b_0))], [], s⟩) (fun J => ?_) ?_); rotate_left; rintro _)
    | simp -implicitDefEqProofs only [go_sem, start, startE, resVs, resV, resC, allV, retK, Nat.reduceBEq, Nat.reduceAdd, Nat.reduceMul, Nat.reduceLeDiff, Nat.reduceEqDiff, Nat.reduceBNe, Nat.ble_eq, UInt8.reduceToNat, UInt32.reduceToNat])
theorem lex_Skip_fe {b_0 at_1} {s : Store} {r : Int}  (h : lex_Skip b_0 at_1 = some r) : FE Go.Proofs.Tryz.prog 225 [.sl false 1 b_0.length (flat b_0), .int .i64 at_1] s [.int .i64 r] s := lex_Skip_fn  ⟨r, h, rfl, rfl⟩
def strings_IndexByte (s_0 : Str) (c_1 : UInt8) : Option (Int) :=
  bnd (stringslite_IndexByte s_0 c_1) fun r1 =>
  some r1
def ir_strings_IndexByte : IC :=
 (.seq (.reg none [i1 4 (.mov false (.c (.int .i64 0)))] [0, 1])
 (.seq (.reg none [mv 5 0,
 mv 6 1,
 i1 7 (.call 224 [(.t 5), (.t 6)]),
 mv 4 7] [4])
 .ret))
def res_strings_IndexByte : List IRes := [⟨4, true, none⟩]
theorem is_strings_IndexByte : fnIs Go.Proofs.Tryz.prog 181 8 res_strings_IndexByte ir_strings_IndexByte = true := by kernel_rfl
theorem strings_IndexByte_fn {s_0 c_1} {s : Store} {Q : List AV → Store → Prop}  : ok (strings_IndexByte s_0 c_1) (fun r => Q [.int .i64 r] s) → FN Go.Proofs.Tryz.prog 181 [.str s_0.b, .int .u8 c_1.toNat] s Q := by
  intro h
  refine FN.of (draw_ok mix) is_strings_IndexByte rfl (Nat.le_of_ble_eq_true rfl) ?_
  revert h
  rw [ir_strings_IndexByte, res_strings_IndexByte, strings_IndexByte]
  repeat' (first
    | with_reducible exact tt_to
    | with_reducible refine and_to ?_ ?_
    | with_reducible exact im_and
    | with_reducible refine im_to ?_
    | with_reducible refine call_to (fun _ (h : stringslite_IndexByte s_0 c_1 = some _) => stringslite_IndexByte_fe h) (fun r1 => ?_)
    | with_reducible refine call_to_q (fun _ (h : stringslite_IndexByte s_0 c_1 = some _) => stringslite_IndexByte_fe h) (fun _ => rfl) (fun r1 => ?_)
    | with_reducible refine call_to (fun _ (h : stringslite_IndexByte s_0 c_1 = some _) => (by refine FE_cast ?_ (stringslite_IndexByte_fe h); simp -implicitDefEqProofs only [go_sem, start, startE, resVs, resV, resC, allV, retK, Nat.reduceBEq, Nat.reduceAdd, Nat.reduceMul, Nat.reduceLeDiff, Nat.reduceEqDiff, Nat.reduceBNe, Nat.ble_eq, UInt8.reduceToNat, UInt32.reduceToNat])) (fun r1 => ?_)
    | with_reducible refine call_to_q (fun _ (h : stringslite_IndexByte s_0 c_1 = some _) => (by refine FE_cast ?_ (stringslite_IndexByte_fe h); simp -implicitDefEqProofs only [go_sem, start, startE, resVs, resV, resC, allV, retK, Nat.reduceBEq, Nat.reduceAdd, Nat.reduceMul, Nat.reduceLeDiff, Nat.reduceEqDiff, Nat.reduceBNe, Nat.ble_eq, UInt8.reduceToNat, UInt32.reduceToNat])) (fun _ => rfl) (fun r1 => ?_)
    | simp -implicitDefEqProofs only [go_sem, start, startE, resVs, resV, resC, allV, retK, Nat.reduceBEq, Nat.reduceAdd, Nat.reduceMul, Nat.reduceLeDiff, Nat.reduceEqDiff, Nat.reduceBNe, Nat.ble_eq, UInt8.reduceToNat, UInt32.reduceToNat])
theorem strings_IndexByte_fe {s_0 c_1} {s : Store} {r : Int}  (h : strings_IndexByte s_0 c_1 = some r) : FE Go.Proofs.Tryz.prog 181 [.str s_0.b, .int .u8 c_1.toNat] s [.int .i64 r] s := strings_IndexByte_fn  ⟨r, h, rfl, rfl⟩
def lex_Delim (c_0 : UInt8) : Option (Bool) :=
  bnd (strings_IndexByte (Str.mk [40, 41, 60, 62, 91, 93, 123, 125, 47, 37]) c_0) fun r1 =>
  some (decide (r1 ≥ 0))
def ir_lex_Delim : IC :=
 (.seq (.reg none [i1 2 (.mov false (.c (.bool false)))] [0])
 (.seq (.reg none [mv 3 0,
 i1 4 (.call 181 [(.c (.str [40, 41, 60, 62, 91, 93, 123, 125, 47, 37])), (.t 3)]),
 i1 5 (.bin .geq (.t 4) (.c (.int .i64 0))),
 mv 2 5] [2])
 .ret))
def res_lex_Delim : List IRes := [⟨2, true, none⟩]
theorem is_lex_Delim : fnIs Go.Proofs.Tryz.prog 131 6 res_lex_Delim ir_lex_Delim = true := by kernel_rfl
theorem lex_Delim_fn {c_0} {s : Store} {Q : List AV → Store → Prop}  : ok (lex_Delim c_0) (fun r => Q [.bool r] s) → FN Go.Proofs.Tryz.prog 131 [.int .u8 c_0.toNat] s Q := by
  intro h
  refine FN.of (draw_ok mix) is_lex_Delim rfl (Nat.le_of_ble_eq_true rfl) ?_
  revert h
  rw [ir_lex_Delim, res_lex_Delim, lex_Delim]
  repeat' (first
    | with_reducible exact tt_to
    | with_reducible refine and_to ?_ ?_
    | with_reducible exact im_and
    | with_reducible refine im_to ?_
    | with_reducible refine call_to (fun _ (h : strings_IndexByte (Str.mk [40, 41, 60, 62, 91, 93, 123, 125, 47, 37]) c_0 = some _) => strings_IndexByte_fe h) (fun r1 => ?_)
    | with_reducible refine call_to_q (fun _ (h : strings_IndexByte (Str.mk [40, 41, 60, 62, 91, 93, 123, 125, 47, 37]) c_0 = some _) => strings_IndexByte_fe h) (fun _ => rfl) (fun r1 => ?_)
    | with_reducible refine call_to (fun _ (h : strings_IndexByte (Str.mk [40, 41, 60, 62, 91, 93, 123, 125, 47, 37]) c_0 = some _) => (by refine FE_cast ?_ (strings_IndexByte_fe h); simp -implicitDefEqProofs only [go_sem, start, startE, resVs, resV, resC, allV, retK, Nat.reduceBEq, Nat.reduceAdd, Nat.reduceMul, Nat.reduceLeDiff, Nat.reduceEqDiff, Nat.reduceBNe, Nat.ble_eq, UInt8.reduceToNat, UInt32.reduceToNat])) (fun r1 => ?_)
    | with_reducible refine call_to_q (fun _ (h : strings_IndexByte (Str.mk [40, 41, 60, 62, 91, 93, 123, 125, 47, 37]) c_0 = some _) => (by refine FE_cast ?_ (strings_IndexByte_fe h); simp -implicitDefEqProofs only [go_sem, start, startE, resVs, resV, resC, allV, retK, Nat.reduceBEq, Nat.reduceAdd, Nat.reduceMul, Nat.reduceLeDiff, Nat.reduceEqDiff, Nat.reduceBNe, Nat.ble_eq, UInt8.reduceToNat, UInt32.reduceToNat])) (fun _ => rfl) (fun r1 => ?_)
    | simp -implicitDefEqProofs only [go_sem, start, startE, resVs, resV, resC, allV, retK, Nat.reduceBEq, Nat.reduceAdd, Nat.reduceMul, Nat.reduceLeDiff, Nat.reduceEqDiff, Nat.reduceBNe, Nat.ble_eq, UInt8.reduceToNat, UInt32.reduceToNat])
theorem lex_Delim_fe {c_0} {s : Store} {r : Bool}  (h : lex_Delim c_0 = some r) : FE Go.Proofs.Tryz.prog 131 [.int .u8 c_0.toNat] s [.bool r] s := lex_Delim_fn  ⟨r, h, rfl, rfl⟩
def lex_regular (c_0 : UInt8) : Option (Bool) :=
  bnd (lex_Space c_0) fun r1 =>
  bnd (whenB (!r1) false (lex_Delim c_0)) fun r2 =>
  some ((!r1) && (!r2))
def ir_lex_regular : IC :=
 (.seq (.reg none [i1 2 (.mov false (.c (.bool false)))] [0])
 (.seq (.reg (some 6) [mv 3 0,
 i1 4 (.call 130 [(.t 3)]),
 i1 5 (.un .not (.t 4)),
 mv 6 5,
 mvg 7 0 6 true,
 i1g 8 6 true (.call 131 [(.t 7)]),
 i1g 9 6 true (.un .not (.t 8)),
 i1 10 (.pick (.t 6) (.t 9) (.c (.bool false))),
 mv 2 10] [2])
 .ret))
def res_lex_regular : List IRes := [⟨2, true, none⟩]
theorem is_lex_regular : fnIs Go.Proofs.Tryz.prog 255 11 res_lex_regular ir_lex_regular = true := by kernel_rfl
theorem lex_regular_fn {c_0} {s : Store} {Q : List AV → Store → Prop}  : ok (lex_regular c_0) (fun r => Q [.bool r] s) → FN Go.Proofs.Tryz.prog 255 [.int .u8 c_0.toNat] s Q := by
  intro h
  refine FN.of (draw_ok mix) is_lex_regular rfl (Nat.le_of_ble_eq_true rfl) ?_
  revert h
  rw [ir_lex_regular, res_lex_regular, lex_regular]
  repeat' (first
    | with_reducible exact tt_to
    | with_reducible refine and_to ?_ ?_
    | with_reducible exact im_and
    | with_reducible refine im_to ?_
    | with_reducible refine call_to (fun _ (h : lex_Space c_0 = some _) => lex_Space_fe h) (fun r1 => ?_)
    | with_reducible refine call_to_q (fun _ (h : lex_Space c_0 = some _) => lex_Space_fe h) (fun _ => rfl) (fun r1 => ?_)
    | with_reducible refine call_to (fun _ (h : lex_Space c_0 = some _) => (by refine FE_cast ?_ (lex_Space_fe h); simp -implicitDefEqProofs only [go_sem, start, startE, resVs, resV, resC, allV, retK, Nat.reduceBEq, Nat.reduceAdd, Nat.reduceMul, Nat.reduceLeDiff, Nat.reduceEqDiff, Nat.reduceBNe, Nat.ble_eq, UInt8.reduceToNat, UInt32.reduceToNat])) (fun r1 => ?_)
    | with_reducible refine call_to_q (fun _ (h : lex_Space c_0 = some _) => (by refine FE_cast ?_ (lex_Space_fe h); simp -implicitDefEqProofs only [go_sem, start, startE, resVs, resV, resC, allV, retK, Nat.reduceBEq, Nat.reduceAdd, Nat.reduceMul, Nat.reduceLeDiff, Nat.reduceEqDiff, Nat.reduceBNe, Nat.ble_eq, UInt8.reduceToNat, UInt32.reduceToNat])) (fun _ => rfl) (fun r1 => ?_)
    | with_reducible refine call_to_g rfl (fun _ (h : lex_Delim c_0 = some _) => lex_Delim_fe h) (fun _ => rfl) (fun r2 => ?_)
    | with_reducible refine call_to_g rfl (fun _ (h : lex_Delim c_0 = some _) => (by refine FE_cast ?_ (lex_Delim_fe h); simp -implicitDefEqProofs only [go_sem, start, startE, resVs, resV, resC, allV, retK, Nat.reduceBEq, Nat.reduceAdd, Nat.reduceMul, Nat.reduceLeDiff, Nat.reduceEqDiff, Nat.reduceBNe, Nat.ble_eq, UInt8.reduceToNat, UInt32.reduceToNat])) (fun _ => rfl) (fun r2 => ?_)
    | simp -implicitDefEqProofs only [go_sem, start, startE, resVs, resV, resC, allV, retK, Nat.reduceBEq, Nat.reduceAdd, Nat.reduceMul, Nat.reduceLeDiff, Nat.reduceEqDiff, Nat.reduceBNe, Nat.ble_eq, UInt8.reduceToNat, UInt32.reduceToNat])
theorem lex_regular_fe {c_0} {s : Store} {r : Bool}  (h : lex_regular c_0 = some r) : FE Go.Proofs.Tryz.prog 255 [.int .u8 c_0.toNat] s [.bool r] s := lex_regular_fn  ⟨r, h, rfl, rfl⟩
def lex_scan_word (s_0 : lex_scan) : Option (Str × Bool × lex_scan) :=
  jn (
    iter (fun (o3 : lex_scan) =>
      need ((decide (o3.at_ < (o3.b_.length : Int))) = true → 0 ≤ o3.at_ ∧ o3.at_ < o3.b_.length) <|
      bnd (whenB (decide (o3.at_ < (o3.b_.length : Int))) false (lex_regular (ix o3.b_ o3.at_))) fun r6 =>
      if (decide (o3.at_ < (o3.b_.length : Int))) && r6 then
        some (.inl (lex_scan.mk o3.Builder o3.b_ (w64 (o3.at_ + 1)) o3.last_))
      else
        some (.inr o3)) s_0) fun (o2 : lex_scan) =>
  need (0 ≤ s_0.at_ ∧ s_0.at_ ≤ o2.at_ ∧ o2.at_ ≤ o2.b_.length) <|
  some (Str.mk (part o2.b_ s_0.at_ o2.at_), (decide (o2.at_ < (o2.b_.length : Int))) || o2.last_, o2)
def ir_lex_scan_word : IC :=
 (.seq (.reg none [i1 2 (.mov false (.c (.str []))),
 i1 3 (.mov false (.c (.bool false)))] [0])
 (.seq (.reg none [mv 5 0,
 i1 6 (.nilCheck (.t 5)),
 i1 7 (.fieldAddr 3 (.t 6)),
 i1 8 (.loadR [.int .i64 0] false (.t 7)),
 mv 4 8] [0, 4])
 (.join [(0, false), (4, false)] (.block 0 (.loop [(0, false), (4, false)] (.seq (.seq (.reg (some 23) [mv 9 0,
 i1 10 (.nilCheck (.t 9)),
 i1 11 (.fieldAddr 3 (.t 10)),
 i1 12 (.loadR [.int .i64 0] false (.t 11)),
 mv 13 0,
 i1 14 (.nilCheck (.t 13)),
 i1 15 (.fieldAddr 2 (.t 14)),
 i1 16 (.loadR [.sl false 1 0 []] false (.t 15)),
 i1 17 (.len 0 (.t 16)),
 i1 18 (.bin .lss (.t 12) (.t 17)),
 mv 19 18,
 mvg 20 0 19 true,
 i1g 21 19 true (.nilCheck (.t 20)),
 i1g 22 19 true (.fieldAddr 2 (.t 21)),
 i1g 23 19 true (.loadR [.sl false 1 0 []] false (.t 22)),
 mvg 24 0 19 true,
 i1g 25 19 true (.nilCheck (.t 24)),
 i1g 26 19 true (.fieldAddr 3 (.t 25)),
 i1g 27 19 true (.loadR [.int .i64 0] false (.t 26)),
 i1g 28 19 true (.indexAddr [.int .u8 0] (.t 23) (.t 27)),
 i1g 29 19 true (.load 1 false (.t 28)),
 i1g 30 19 true (.call 255 [(.t 29)]),
 i1 31 (.pick (.t 19) (.t 30) (.c (.bool false)))] [0, 4, 31])
 (.cond (.t 31) .skip
 (.exit 0)))
 (.block 1 (.reg none [mv 32 0,
 i1 33 (.nilCheck (.t 32)),
 i1 34 (.fieldAddr 3 (.t 33)),
 i1 35 (.loadR [.int .i64 0] false (.t 34)),
 i1 36 (.bin .add (.t 35) (.c (.int .i64 1))),
 i1 37 (.nilCheck (.t 32)),
 i1 38 (.fieldAddr 3 (.t 37)),
 i0 (.store 1 (.t 38) (.t 36))] [0, 4])))))
 (.seq (.reg (some 29) [mv 39 0,
 i1 40 (.nilCheck (.t 39)),
 i1 41 (.fieldAddr 2 (.t 40)),
 i1 42 (.loadR [.sl false 1 0 []] false (.t 41)),
 mv 43 4,
 mv 44 0,
 i1 45 (.nilCheck (.t 44)),
 i1 46 (.fieldAddr 3 (.t 45)),
 i1 47 (.loadR [.int .i64 0] false (.t 46)),
 i1 48 (.slice 1 (.t 42) (some (.t 43)) (some (.t 47)) none),
 i1 49 (.cvtStr (.t 48)),
 mv 50 0,
 i1 51 (.nilCheck (.t 50)),
 i1 52 (.fieldAddr 3 (.t 51)),
 i1 53 (.loadR [.int .i64 0] false (.t 52)),
 mv 54 0,
 i1 55 (.nilCheck (.t 54)),
 i1 56 (.fieldAddr 2 (.t 55)),
 i1 57 (.loadR [.sl false 1 0 []] false (.t 56)),
 i1 58 (.len 0 (.t 57)),
 i1 59 (.bin .lss (.t 53) (.t 58)),
 mv 60 59,
 mvg 61 0 60 false,
 i1g 62 60 false (.nilCheck (.t 61)),
 i1g 63 60 false (.fieldAddr 4 (.t 62)),
 i1g 64 60 false (.loadR [.bool false] false (.t 63)),
 i1 65 (.pick (.t 60) (.c (.bool true)) (.t 64)),
 mv 2 49,
 mv 3 65] [2, 3])
 .ret))))
def res_lex_scan_word : List IRes := [⟨2, true, none⟩, ⟨3, true, none⟩]
theorem is_lex_scan_word : fnIs Go.Proofs.Tryz.prog 260 66 res_lex_scan_word ir_lex_scan_word = true := by kernel_rfl
theorem lex_scan_word_fn {s_0} {B0 : Nat} {s : Store} {Q : List AV → Store → Prop} (hB0 : s B0 = some (.cells [s_0.Builder.a, s_0.Builder.b, .sl false 1 s_0.b_.length (flat s_0.b_), .int .i64 s_0.at_, .bool s_0.last_])) : ok (lex_scan_word s_0) (fun r => Q [.str r.1.b, .bool r.2.1] (s.set B0 (.cells [r.2.2.Builder.a, r.2.2.Builder.b, .sl false 1 r.2.2.b_.length (flat r.2.2.b_), .int .i64 r.2.2.at_, .bool r.2.2.last_]))) → FN Go.Proofs.Tryz.prog 260 [.ref B0 0] s Q := by
  have hS : s = (s.set B0 (.cells [s_0.Builder.a, s_0.Builder.b, .sl false 1 s_0.b_.length (flat s_0.b_), .int .i64 s_0.at_, .bool s_0.last_])) := by simp only [set_eq' hB0]
  rw [hS]
  intro h
  refine FN.of (draw_ok mix) is_lex_scan_word rfl (Nat.le_of_ble_eq_true rfl) ?_
  revert h
  rw [ir_lex_scan_word, res_lex_scan_word, lex_scan_word]
  repeat' (first
    | with_reducible exact tt_to
    | with_reducible refine and_to ?_ ?_
    | with_reducible exact im_and
    | with_reducible refine im_to ?_
    | with_reducible refine call_to_g rfl (fun _ (h : lex_regular (ix o3.b_ o3.at_) = some _) => lex_regular_fe h) (fun _ => rfl) (fun r6 => ?_)
    | with_reducible refine call_to_g rfl (fun _ (h : lex_regular (ix o3.b_ o3.at_) = some _) => (by refine FE_cast ?_ (lex_regular_fe h); simp -implicitDefEqProofs only [go_sem, start, startE, resVs, resV, resC, allV, retK, Nat.reduceBEq, Nat.reduceAdd, Nat.reduceMul, Nat.reduceLeDiff, Nat.reduceEqDiff, Nat.reduceBNe, Nat.ble_eq, UInt8.reduceToNat, UInt32.reduceToNat])) (fun _ => rfl) (fun r6 => ?_)
    | ((with_reducible refine iter_to (fun (o3 : lex_scan) => ⟨[(0, .ref B0 0), (4, .int .i64 s_0.at_)], [], (s.set B0 (.cells [o3.Builder.a, o3.Builder.b, .sl false 1 o3.b_.length (flat o3.b_), .int .i64 o3.at_, .bool o3.last_]))⟩) ?_ ?_); (first | exact rfl | simp -implicitDefEqProofs only [go_sem, start, startE, resVs, resV, resC, allV, retK, Nat.reduceBEq, Nat.reduceAdd, Nat.reduceMul, Nat.reduceLeDiff, Nat.reduceEqDiff, Nat.reduceBNe, Nat.ble_eq, UInt8.reduceToNat, UInt32.reduceToNat]); rintro J o3)
    | ((with_reducible refine join_to (fun (o2 : lex_scan) => ⟨[(0, .ref B0 0), (4, .int .i64 s_0.at_)], [], (s.set B0 (.cells [o2.Builder.a, o2.Builder.b, .sl false 1 o2.b_.length (flat o2.b_), .int .i64 o2.at_, .bool o2.last_]))⟩) (fun J => ?_) ?_); rotate_left; rintro o2)
    | simp -implicitDefEqProofs only [go_sem, start, startE, resVs, resV, resC, allV, retK, Nat.reduceBEq, Nat.reduceAdd, Nat.reduceMul, Nat.reduceLeDiff, Nat.reduceEqDiff, Nat.reduceBNe, Nat.ble_eq, UInt8.reduceToNat, UInt32.reduceToNat])
def internal_stringslite_HasPrefix (s_0 : Str) (prefix_1 : Str) : Option (Bool) :=
  need ((decide ((s_0.b.length : Int) ≥ (prefix_1.b.length : Int))) = true → 0 ≤ (0 : Int) ∧ 0 ≤ (prefix_1.b.length : Int) ∧ (prefix_1.b.length : Int) ≤ s_0.b.length) <|
  some ((decide ((s_0.b.length : Int) ≥ (prefix_1.b.length : Int))) && ((Str.mk (part s_0.b 0 (prefix_1.b.length : Int))).b == prefix_1.b))
def ir_internal_stringslite_HasPrefix : IC :=
 (.seq (.reg none [i1 4 (.mov false (.c (.bool false)))] [0, 1])
 (.seq (.reg none [mv 5 0,
 i1 6 (.len 1 (.t 5)),
 mv 7 1,
 i1 8 (.len 1 (.t 7)),
 i1 9 (.bin .geq (.t 6) (.t 8)),
 mv 10 9,
 mvg 11 0 10 true,
 mvg 12 1 10 true,
 i1g 13 10 true (.len 1 (.t 12)),
 i1g 14 10 true (.sslice (.t 11) none (some (.t 13))),
 mvg 15 1 10 true,
 i1g 16 10 true (.bin .eql (.t 14) (.t 15)),
 i1 17 (.pick (.t 10) (.t 16) (.c (.bool false))),
 mv 4 17] [4])
 .ret))
def res_internal_stringslite_HasPrefix : List IRes := [⟨4, true, none⟩]
theorem is_internal_stringslite_HasPrefix : fnIs Go.Proofs.Tryz.prog 349 18 res_internal_stringslite_HasPrefix ir_internal_stringslite_HasPrefix = true := by kernel_rfl
theorem internal_stringslite_HasPrefix_fn {s_0 prefix_1} {s : Store} {Q : List AV → Store → Prop}  : ok (internal_stringslite_HasPrefix s_0 prefix_1) (fun r => Q [.bool r] s) → FN Go.Proofs.Tryz.prog 349 [.str s_0.b, .str prefix_1.b] s Q := by
  intro h
  refine FN.of (draw_ok mix) is_internal_stringslite_HasPrefix rfl (Nat.le_of_ble_eq_true rfl) ?_
  revert h
  rw [ir_internal_stringslite_HasPrefix, res_internal_stringslite_HasPrefix, internal_stringslite_HasPrefix]
  repeat' (first
    | with_reducible exact tt_to
    | with_reducible refine and_to ?_ ?_
    | with_reducible exact im_and
    | with_reducible refine im_to ?_
    | simp -implicitDefEqProofs only [go_sem, start, startE, resVs, resV, resC, allV, retK, Nat.reduceBEq, Nat.reduceAdd, Nat.reduceMul, Nat.reduceLeDiff, Nat.reduceEqDiff, Nat.reduceBNe, Nat.ble_eq, UInt8.reduceToNat, UInt32.reduceToNat])
theorem internal_stringslite_HasPrefix_fe {s_0 prefix_1} {s : Store} {r : Bool}  (h : internal_stringslite_HasPrefix s_0 prefix_1 = some r) : FE Go.Proofs.Tryz.prog 349 [.str s_0.b, .str prefix_1.b] s [.bool r] s := internal_stringslite_HasPrefix_fn  ⟨r, h, rfl, rfl⟩
def strings_HasPrefix (s_0 : Str) (prefix_1 : Str) : Option (Bool) :=
  bnd (internal_stringslite_HasPrefix s_0 prefix_1) fun r1 =>
  some r1
def ir_strings_HasPrefix : IC :=
 (.seq (.reg none [i1 4 (.mov false (.c (.bool false)))] [0, 1])
 (.seq (.reg none [mv 5 0,
 mv 6 1,
 i1 7 (.call 349 [(.t 5), (.t 6)]),
 mv 4 7] [4])
 .ret))
def res_strings_HasPrefix : List IRes := [⟨4, true, none⟩]
theorem is_strings_HasPrefix : fnIs Go.Proofs.Tryz.prog 326 8 res_strings_HasPrefix ir_strings_HasPrefix = true := by kernel_rfl
theorem strings_HasPrefix_fn {s_0 prefix_1} {s : Store} {Q : List AV → Store → Prop}  : ok (strings_HasPrefix s_0 prefix_1) (fun r => Q [.bool r] s) → FN Go.Proofs.Tryz.prog 326 [.str s_0.b, .str prefix_1.b] s Q := by
  intro h
  refine FN.of (draw_ok mix) is_strings_HasPrefix rfl (Nat.le_of_ble_eq_true rfl) ?_
  revert h
  rw [ir_strings_HasPrefix, res_strings_HasPrefix, strings_HasPrefix]
  repeat' (first
    | with_reducible exact tt_to
    | with_reducible refine and_to ?_ ?_
    | with_reducible exact im_and
    | with_reducible refine im_to ?_
    | with_reducible refine call_to (fun _ (h : internal_stringslite_HasPrefix s_0 prefix_1 = some _) => internal_stringslite_HasPrefix_fe h) (fun r1 => ?_)
    | with_reducible refine call_to_q (fun _ (h : internal_stringslite_HasPrefix s_0 prefix_1 = some _) => internal_stringslite_HasPrefix_fe h) (fun _ => rfl) (fun r1 => ?_)
    | with_reducible refine call_to (fun _ (h : internal_stringslite_HasPrefix s_0 prefix_1 = some _) => (by refine FE_cast ?_ (internal_stringslite_HasPrefix_fe h); simp -implicitDefEqProofs only [go_sem, start, startE, resVs, resV, resC, allV, retK, Nat.reduceBEq, Nat.reduceAdd, Nat.reduceMul, Nat.reduceLeDiff, Nat.reduceEqDiff, Nat.reduceBNe, Nat.ble_eq, UInt8.reduceToNat, UInt32.reduceToNat])) (fun r1 => ?_)
    | with_reducible refine call_to_q (fun _ (h : internal_stringslite_HasPrefix s_0 prefix_1 = some _) => (by refine FE_cast ?_ (internal_stringslite_HasPrefix_fe h); simp -implicitDefEqProofs only [go_sem, start, startE, resVs, resV, resC, allV, retK, Nat.reduceBEq, Nat.reduceAdd, Nat.reduceMul, Nat.reduceLeDiff, Nat.reduceEqDiff, Nat.reduceBNe, Nat.ble_eq, UInt8.reduceToNat, UInt32.reduceToNat])) (fun _ => rfl) (fun r1 => ?_)
    | simp -implicitDefEqProofs only [go_sem, start, startE, resVs, resV, resC, allV, retK, Nat.reduceBEq, Nat.reduceAdd, Nat.reduceMul, Nat.reduceLeDiff, Nat.reduceEqDiff, Nat.reduceBNe, Nat.ble_eq, UInt8.reduceToNat, UInt32.reduceToNat])
theorem strings_HasPrefix_fe {s_0 prefix_1} {s : Store} {r : Bool}  (h : strings_HasPrefix s_0 prefix_1 = some r) : FE Go.Proofs.Tryz.prog 326 [.str s_0.b, .str prefix_1.b] s [.bool r] s := strings_HasPrefix_fn  ⟨r, h, rfl, rfl⟩
def internal_stringslite_Cut (s_0 : Str) (sep_1 : Str) : Option (Str × Str × Bool) :=
  bnd (stringslite_Index s_0 sep_1) fun r1 =>
  if decide (r1 ≥ 0) then
    need (0 ≤ (0 : Int) ∧ 0 ≤ r1 ∧ r1 ≤ s_0.b.length) <|
    need (0 ≤ w64 (r1 + (sep_1.b.length : Int)) ∧ w64 (r1 + (sep_1.b.length : Int)) ≤ (s_0.b.length : Int) ∧ (s_0.b.length : Int) ≤ s_0.b.length) <|
    some (Str.mk (part s_0.b 0 r1), Str.mk (part s_0.b (w64 (r1 + (sep_1.b.length : Int))) (s_0.b.length : Int)), true)
  else
    some (s_0, (Str.mk []), false)
def ir_internal_stringslite_Cut : IC :=
 (.seq (.reg none [i1 4 (.mov false (.c (.str []))),
 i1 5 (.mov false (.c (.str []))),
 i1 6 (.mov false (.c (.bool false)))] [0, 1])
 (.seq (.seq (.reg none [mv 8 0,
 mv 9 1,
 i1 10 (.call 364 [(.t 8), (.t 9)]),
 mv 7 10] [0, 1, 7])
 (.seq (.reg none [mv 11 7,
 i1 12 (.bin .geq (.t 11) (.c (.int .i64 0)))] [0, 1, 7, 12])
 (.cond (.t 12) (.seq (.reg (some 12) [mv 13 0,
 mv 14 7,
 i1 15 (.sslice (.t 13) none (some (.t 14))),
 mv 16 0,
 mv 17 7,
 mv 18 1,
 i1 19 (.len 1 (.t 18)),
 i1 20 (.bin .add (.t 17) (.t 19)),
 i1 21 (.sslice (.t 16) (some (.t 20)) none),
 mv 4 15,
 mv 5 21,
 i1 6 (.mov false (.c (.bool true)))] [4, 5, 6])
 .ret)
 .skip)))
 (.seq (.reg none [mv 22 0,
 mv 4 22,
 i1 5 (.mov false (.c (.str []))),
 i1 6 (.mov false (.c (.bool false)))] [4, 5, 6])
 .ret)))
def res_internal_stringslite_Cut : List IRes := [⟨4, true, none⟩, ⟨5, true, none⟩, ⟨6, true, none⟩]
theorem is_internal_stringslite_Cut : fnIs Go.Proofs.Tryz.prog 350 23 res_internal_stringslite_Cut ir_internal_stringslite_Cut = true := by kernel_rfl
theorem internal_stringslite_Cut_fn {s_0 sep_1} {s : Store} {Q : List AV → Store → Prop}  : ok (internal_stringslite_Cut s_0 sep_1) (fun r => Q [.str r.1.b, .str r.2.1.b, .bool r.2.2] s) → FN Go.Proofs.Tryz.prog 350 [.str s_0.b, .str sep_1.b] s Q := by
  intro h
  refine FN.of (draw_ok mix) is_internal_stringslite_Cut rfl (Nat.le_of_ble_eq_true rfl) ?_
  revert h
  rw [ir_internal_stringslite_Cut, res_internal_stringslite_Cut, internal_stringslite_Cut]
  repeat' (first
    | with_reducible exact tt_to
    | with_reducible refine and_to ?_ ?_
    | with_reducible exact im_and
    | with_reducible refine im_to ?_
    | with_reducible refine call_to (fun _ (h : stringslite_Index s_0 sep_1 = some _) => stringslite_Index_fe h) (fun r1 => ?_)
    | with_reducible refine call_to_q (fun _ (h : stringslite_Index s_0 sep_1 = some _) => stringslite_Index_fe h) (fun _ => rfl) (fun r1 => ?_)
    | with_reducible refine call_to (fun _ (h : stringslite_Index s_0 sep_1 = some _) => (by refine FE_cast ?_ (stringslite_Index_fe h); simp -implicitDefEqProofs only [go_sem, start, startE, resVs, resV, resC, allV, retK, Nat.reduceBEq, Nat.reduceAdd, Nat.reduceMul, Nat.reduceLeDiff, Nat.reduceEqDiff, Nat.reduceBNe, Nat.ble_eq, UInt8.reduceToNat, UInt32.reduceToNat])) (fun r1 => ?_)
    | with_reducible refine call_to_q (fun _ (h : stringslite_Index s_0 sep_1 = some _) => (by refine FE_cast ?_ (stringslite_Index_fe h); simp -implicitDefEqProofs only [go_sem, start, startE, resVs, resV, resC, allV, retK, Nat.reduceBEq, Nat.reduceAdd, Nat.reduceMul, Nat.reduceLeDiff, Nat.reduceEqDiff, Nat.reduceBNe, Nat.ble_eq, UInt8.reduceToNat, UInt32.reduceToNat])) (fun _ => rfl) (fun r1 => ?_)
    | simp -implicitDefEqProofs only [go_sem, start, startE, resVs, resV, resC, allV, retK, Nat.reduceBEq, Nat.reduceAdd, Nat.reduceMul, Nat.reduceLeDiff, Nat.reduceEqDiff, Nat.reduceBNe, Nat.ble_eq, UInt8.reduceToNat, UInt32.reduceToNat])
theorem internal_stringslite_Cut_fe {s_0 sep_1} {s : Store} {r : Str × Str × Bool}  (h : internal_stringslite_Cut s_0 sep_1 = some r) : FE Go.Proofs.Tryz.prog 350 [.str s_0.b, .str sep_1.b] s [.str r.1.b, .str r.2.1.b, .bool r.2.2] s := internal_stringslite_Cut_fn  ⟨r, h, rfl, rfl⟩
def strings_Cut (s_0 : Str) (sep_1 : Str) : Option (Str × Str × Bool) :=
  bnd (internal_stringslite_Cut s_0 sep_1) fun r1 =>
  some (r1.1, r1.2.1, r1.2.2)
def ir_strings_Cut : IC :=
 (.seq (.reg none [i1 4 (.mov false (.c (.str []))),
 i1 5 (.mov false (.c (.str []))),
 i1 6 (.mov false (.c (.bool false)))] [0, 1])
 (.seq (.reg none [mv 7 0,
 mv 8 1,
 i1 9 (.call 350 [(.t 7), (.t 8)]),
 i1 10 (.extract (.t 9) 0),
 i1 11 (.extract (.t 9) 1),
 i1 12 (.extract (.t 9) 2),
 mv 4 10,
 mv 5 11,
 mv 6 12] [4, 5, 6])
 .ret))
def res_strings_Cut : List IRes := [⟨4, true, none⟩, ⟨5, true, none⟩, ⟨6, true, none⟩]
theorem is_strings_Cut : fnIs Go.Proofs.Tryz.prog 327 13 res_strings_Cut ir_strings_Cut = true := by kernel_rfl
theorem strings_Cut_fn {s_0 sep_1} {s : Store} {Q : List AV → Store → Prop}  : ok (strings_Cut s_0 sep_1) (fun r => Q [.str r.1.b, .str r.2.1.b, .bool r.2.2] s) → FN Go.Proofs.Tryz.prog 327 [.str s_0.b, .str sep_1.b] s Q := by
  intro h
  refine FN.of (draw_ok mix) is_strings_Cut rfl (Nat.le_of_ble_eq_true rfl) ?_
  revert h
  rw [ir_strings_Cut, res_strings_Cut, strings_Cut]
  repeat' (first
    | with_reducible exact tt_to
    | with_reducible refine and_to ?_ ?_
    | with_reducible exact im_and
    | with_reducible refine im_to ?_
    | with_reducible refine call_to (fun _ (h : internal_stringslite_Cut s_0 sep_1 = some _) => internal_stringslite_Cut_fe h) (fun r1 => ?_)
    | with_reducible refine call_to_q (fun _ (h : internal_stringslite_Cut s_0 sep_1 = some _) => internal_stringslite_Cut_fe h) (fun _ => rfl) (fun r1 => ?_)
    | with_reducible refine call_to (fun _ (h : internal_stringslite_Cut s_0 sep_1 = some _) => (by refine FE_cast ?_ (internal_stringslite_Cut_fe h); simp -implicitDefEqProofs only [go_sem, start, startE, resVs, resV, resC, allV, retK, Nat.reduceBEq, Nat.reduceAdd, Nat.reduceMul, Nat.reduceLeDiff, Nat.reduceEqDiff, Nat.reduceBNe, Nat.ble_eq, UInt8.reduceToNat, UInt32.reduceToNat])) (fun r1 => ?_)
    | with_reducible refine call_to_q (fun _ (h : internal_stringslite_Cut s_0 sep_1 = some _) => (by refine FE_cast ?_ (internal_stringslite_Cut_fe h); simp -implicitDefEqProofs only [go_sem, start, startE, resVs, resV, resC, allV, retK, Nat.reduceBEq, Nat.reduceAdd, Nat.reduceMul, Nat.reduceLeDiff, Nat.reduceEqDiff, Nat.reduceBNe, Nat.ble_eq, UInt8.reduceToNat, UInt32.reduceToNat])) (fun _ => rfl) (fun r1 => ?_)
    | simp -implicitDefEqProofs only [go_sem, start, startE, resVs, resV, resC, allV, retK, Nat.reduceBEq, Nat.reduceAdd, Nat.reduceMul, Nat.reduceLeDiff, Nat.reduceEqDiff, Nat.reduceBNe, Nat.ble_eq, UInt8.reduceToNat, UInt32.reduceToNat])
theorem strings_Cut_fe {s_0 sep_1} {s : Store} {r : Str × Str × Bool}  (h : strings_Cut s_0 sep_1 = some r) : FE Go.Proofs.Tryz.prog 327 [.str s_0.b, .str sep_1.b] s [.str r.1.b, .str r.2.1.b, .bool r.2.2] s := strings_Cut_fn  ⟨r, h, rfl, rfl⟩
def num_millionths (s_0 : Str) : Option (Int) :=
  need (((s_0.b.length + (Str.mk [48, 48, 48, 48, 48, 48]).b.length : Nat) : Int) ≤ hi64) <|
  need (0 ≤ (0 : Int) ∧ 0 ≤ 6 ∧ 6 ≤ (Str.mk (s_0.b ++ (Str.mk [48, 48, 48, 48, 48, 48]).b)).b.length) <|
  bnd (num_Digits (Str.mk (part (Str.mk (s_0.b ++ (Str.mk [48, 48, 48, 48, 48, 48]).b)).b 0 6))) fun r1 =>
  some r1.1
def ir_num_millionths : IC :=
 (.seq (.reg none [i1 2 (.mov false (.c (.int .i64 0)))] [0])
 (.seq (.reg none [mv 5 0,
 i1 6 (.bin .add (.t 5) (.c (.str [48, 48, 48, 48, 48, 48]))),
 i1 7 (.sslice (.t 6) none (some (.c (.int .i64 6)))),
 mv 0 7] [0])
 (.seq (.reg none [mv 9 0,
 i1 10 (.call 329 [(.t 9)]),
 i1 8 (.movT (.t 10)),
 i1 11 (.extract (.t 8) 0),
 i1 12 (.extract (.t 8) 1),
 mv 3 11,
 mv 4 12] [3])
 (.seq (.reg none [mv 13 3,
 mv 2 13] [2])
 .ret))))
def res_num_millionths : List IRes := [⟨2, true, none⟩]
theorem is_num_millionths : fnIs Go.Proofs.Tryz.prog 330 14 res_num_millionths ir_num_millionths = true := by kernel_rfl
theorem num_millionths_fn {s_0} {s : Store} {Q : List AV → Store → Prop}  : ok (num_millionths s_0) (fun r => Q [.int .i64 r] s) → FN Go.Proofs.Tryz.prog 330 [.str s_0.b] s Q := by
  intro h
  refine FN.of (draw_ok mix) is_num_millionths rfl (Nat.le_of_ble_eq_true rfl) ?_
  revert h
  rw [ir_num_millionths, res_num_millionths, num_millionths]
  repeat' (first
    | with_reducible exact tt_to
    | with_reducible refine and_to ?_ ?_
    | with_reducible exact im_and
    | with_reducible refine im_to ?_
    | with_reducible refine call_to (fun _ (h : num_Digits (Str.mk (part (Str.mk (s_0.b ++ (Str.mk [48, 48, 48, 48, 48, 48]).b)).b 0 6)) = some _) => num_Digits_fe h) (fun r1 => ?_)
    | with_reducible refine call_to_q (fun _ (h : num_Digits (Str.mk (part (Str.mk (s_0.b ++ (Str.mk [48, 48, 48, 48, 48, 48]).b)).b 0 6)) = some _) => num_Digits_fe h) (fun _ => rfl) (fun r1 => ?_)
    | ((fail_if_success (have _x := r1)); with_reducible refine call_to (fun _ h => num_Digits_fe h) (fun r1 => ?_))
    | with_reducible refine call_to (fun _ (h : num_Digits (Str.mk (part (Str.mk (s_0.b ++ (Str.mk [48, 48, 48, 48, 48, 48]).b)).b 0 6)) = some _) => (by refine FE_cast ?_ (num_Digits_fe h); simp -implicitDefEqProofs only [go_sem, start, startE, resVs, resV, resC, allV, retK, Nat.reduceBEq, Nat.reduceAdd, Nat.reduceMul, Nat.reduceLeDiff, Nat.reduceEqDiff, Nat.reduceBNe, Nat.ble_eq, UInt8.reduceToNat, UInt32.reduceToNat])) (fun r1 => ?_)
    | with_reducible refine call_to_q (fun _ (h : num_Digits (Str.mk (part (Str.mk (s_0.b ++ (Str.mk [48, 48, 48, 48, 48, 48]).b)).b 0 6)) = some _) => (by refine FE_cast ?_ (num_Digits_fe h); simp -implicitDefEqProofs only [go_sem, start, startE, resVs, resV, resC, allV, retK, Nat.reduceBEq, Nat.reduceAdd, Nat.reduceMul, Nat.reduceLeDiff, Nat.reduceEqDiff, Nat.reduceBNe, Nat.ble_eq, UInt8.reduceToNat, UInt32.reduceToNat])) (fun _ => rfl) (fun r1 => ?_)
    | simp -implicitDefEqProofs only [go_sem, start, startE, resVs, resV, resC, allV, retK, Nat.reduceBEq, Nat.reduceAdd, Nat.reduceMul, Nat.reduceLeDiff, Nat.reduceEqDiff, Nat.reduceBNe, Nat.ble_eq, UInt8.reduceToNat, UInt32.reduceToNat])
theorem num_millionths_fe {s_0} {s : Store} {r : Int}  (h : num_millionths s_0 = some r) : FE Go.Proofs.Tryz.prog 330 [.str s_0.b] s [.int .i64 r] s := num_millionths_fn  ⟨r, h, rfl, rfl⟩
def num_Check (v_0 : api_Value) : Option (Int) :=
  jnS (
    if v_0.Kind == 2 then
      some (.inl 2147483647)
    else
      if v_0.Kind == 3 then
        some (.inl 2147483647000000)
      else
        some (.inr (2 : Int))) (fun (limit2 : Int) =>
    if (((decide (v_0.N < w64 (0 - limit2))) || (decide (v_0.N > limit2))) || (!(v_0.S.b == (Str.mk []).b))) || (decide ((v_0.L.length : Int) > 0)) then
      some 2
    else
      some 0)
  (fun (t3 : Int) => some t3)
def ir_num_Check : IC :=
 (.seq (.reg none [i1 1 (.boxL 4 (.t 0)),
 i1 2 (.mov false (.c (.int .i64 0)))] [1])
 (.seq (.reg none [i1 3 (.mov false (.c (.int .i64 0)))] [1])
 (.join [(1, false), (3, false)] (.seq (.reg none [i1 4 (.fieldAddr 0 (.t 1)),
 i1 5 (.load 1 false (.t 4))] [1, 5])
 (.block 0 (.seq (.reg none [i1 7 (.bin .eql (.t 5) (.c (.int .i64 2))),
 mv 6 7] [1, 5, 6])
 (.cond (.t 6) (.reg none [i1 3 (.mov false (.c (.int .i64 2147483647)))] [1, 3])
 (.seq (.reg none [i1 9 (.bin .eql (.t 5) (.c (.int .i64 3))),
 mv 8 9] [1, 8])
 (.cond (.t 8) (.reg none [i1 3 (.mov false (.c (.int .i64 2147483647000000)))] [1, 3])
 (.seq (.reg none [i1 2 (.mov false (.c (.int .i64 2)))] [2])
 .ret)))))))
 (.seq (.seq (.reg none [i1 10 (.fieldAddr 1 (.t 1)),
 i1 11 (.load 1 false (.t 10)),
 mv 12 3,
 i1 13 (.un .neg (.t 12)),
 i1 14 (.bin .lss (.t 11) (.t 13)),
 mv 15 14,
 i1g 16 15 false (.fieldAddr 1 (.t 1)),
 i1g 17 15 false (.load 1 false (.t 16)),
 mvg 18 3 15 false,
 i1g 19 15 false (.bin .gtr (.t 17) (.t 18)),
 i1 20 (.pick (.t 15) (.c (.bool true)) (.t 19)),
 mv 21 20,
 i1g 22 21 false (.fieldAddr 2 (.t 1)),
 i1g 23 21 false (.load 1 false (.t 22)),
 i1g 24 21 false (.bin .neq (.t 23) (.c (.str []))),
 i1 25 (.pick (.t 21) (.c (.bool true)) (.t 24)),
 mv 26 25,
 i1g 27 26 false (.fieldAddr 3 (.t 1)),
 i1g 28 26 false (.load 1 false (.t 27)),
 i1g 29 26 false (.len 0 (.t 28)),
 i1g 30 26 false (.bin .gtr (.t 29) (.c (.int .i64 0))),
 i1 31 (.pick (.t 26) (.c (.bool true)) (.t 30))] [31])
 (.cond (.t 31) (.seq (.reg none [i1 2 (.mov false (.c (.int .i64 2)))] [2])
 .ret)
 .skip))
 (.seq (.reg none [i1 2 (.mov false (.c (.int .i64 0)))] [2])
 .ret)))))
def res_num_Check : List IRes := [⟨2, true, none⟩]
theorem is_num_Check : fnIs Go.Proofs.Tryz.prog 331 32 res_num_Check ir_num_Check = true := by kernel_rfl
theorem num_Check_fn {v_0} {s : Store} {Q : List AV → Store → Prop}  : ok (num_Check v_0) (fun r => Q [.int .i64 r] s) → FN Go.Proofs.Tryz.prog 331 [.agg [.int .i64 v_0.Kind, .int .i64 v_0.N, .str v_0.S.b, .sl false 4 v_0.L.length (flat v_0.L)]] s Q := by
  intro h
  refine FN.of (draw_ok mix) is_num_Check rfl (Nat.le_of_ble_eq_true rfl) ?_
  revert h
  rw [ir_num_Check, res_num_Check, num_Check]
  repeat' (first
    | with_reducible exact tt_to
    | with_reducible refine and_to ?_ ?_
    | with_reducible exact im_and
    | with_reducible refine im_to ?_
    | ((with_reducible refine join_toS (fun (limit2 : Int) => ⟨[(1, .loc [.int .i64 v_0.Kind, .int .i64 v_0.N, .str v_0.S.b, .sl false 4 v_0.L.length (flat v_0.L)]), (3, .int .i64 limit2)], [], s⟩) (fun J => ?_) ?_); rotate_left; rintro limit2)
    | simp -implicitDefEqProofs only [go_sem, start, startE, resVs, resV, resC, allV, retK, Nat.reduceBEq, Nat.reduceAdd, Nat.reduceMul, Nat.reduceLeDiff, Nat.reduceEqDiff, Nat.reduceBNe, Nat.ble_eq, UInt8.reduceToNat, UInt32.reduceToNat])
theorem num_Check_fe {v_0} {s : Store} {r : Int}  (h : num_Check v_0 = some r) : FE Go.Proofs.Tryz.prog 331 [.agg [.int .i64 v_0.Kind, .int .i64 v_0.N, .str v_0.S.b, .sl false 4 v_0.L.length (flat v_0.L)]] s [.int .i64 r] s := num_Check_fn  ⟨r, h, rfl, rfl⟩
def num_Parse (s_0 : Str) : Option (api_Value × Int) :=
  jn (
    bnd (strings_HasPrefix s_0 (Str.mk [45])) fun r4 =>
    if r4 then
      need (0 ≤ (1 : Int) ∧ 1 ≤ (s_0.b.length : Int) ∧ (s_0.b.length : Int) ≤ s_0.b.length) <|
      some ((-1), Str.mk (part s_0.b 1 (s_0.b.length : Int)))
    else
      bnd (strings_HasPrefix s_0 (Str.mk [43])) fun r5 =>
      if r5 then
        need (0 ≤ (1 : Int) ∧ 1 ≤ (s_0.b.length : Int) ∧ (s_0.b.length : Int) ≤ s_0.b.length) <|
        some (1, Str.mk (part s_0.b 1 (s_0.b.length : Int)))
      else
        some (1, s_0)) fun ((sign2, body3) : Int × Str) =>
  bnd (strings_Cut body3 (Str.mk [46])) fun r6 =>
  bnd (whenB (!((w64 ((r6.1.b.length : Int) + (r6.2.1.b.length : Int))) == 0)) false (num_all r6.1)) fun r7 =>
  bnd (whenB (!(((w64 ((r6.1.b.length : Int) + (r6.2.1.b.length : Int))) == 0) || (!r7))) false (num_all r6.2.1)) fun r8 =>
  if (((w64 ((r6.1.b.length : Int) + (r6.2.1.b.length : Int))) == 0) || (!r7)) || (!r8) then
    some ((api_Value.mk 0 0 (Str.mk []) ([] : List api_Value)), 11)
  else
    need ((((Str.mk [48]).b.length + r6.1.b.length : Nat) : Int) ≤ hi64) <|
    bnd (num_Digits (Str.mk ((Str.mk [48]).b ++ r6.1.b))) fun r9 =>
    if r9.2 != 0 then
      some ((api_Value.mk 0 0 (Str.mk []) ([] : List api_Value)), r9.2)
    else
      if !r6.2.2 then
        some ((api_Value.mk 2 (w64 (sign2 * r9.1)) (Str.mk []) ([] : List api_Value)), 0)
      else
        bnd (num_millionths r6.2.1) fun r10 =>
        bnd (num_Check (api_Value.mk 3 (w64 (sign2 * (w64 ((w64 (r9.1 * 1000000)) + r10)))) (Str.mk []) ([] : List api_Value))) fun r11 =>
        if r11 != 0 then
          some ((api_Value.mk 0 0 (Str.mk []) ([] : List api_Value)), 5)
        else
          some ((api_Value.mk 3 (w64 (sign2 * (w64 ((w64 (r9.1 * 1000000)) + r10)))) (Str.mk []) ([] : List api_Value)), 0)
def ir_num_Parse : IC :=
 (.seq (.reg none [i1 2 (.allocL [.int .i64 0, .int .i64 0, .str [], .sl true 4 0 []]),
 i1 3 (.mov false (.c (.int .i64 0)))] [0, 2])
 (.seq (.reg none [i1 4 (.mov false (.c (.int .i64 1)))] [0, 2, 4])
 (.seq (.reg none [mv 12 0,
 mv 5 12] [0, 2, 4, 5])
 (.join [(2, false), (4, false), (5, false)] (.block 0 (.seq (.reg none [mv 14 0,
 i1 15 (.call 326 [(.t 14), (.c (.str [45]))]),
 mv 13 15] [0, 2, 4, 5, 13])
 (.cond (.t 13) (.reg (some 4) [mv 16 0,
 i1 17 (.sslice (.t 16) (some (.c (.int .i64 1))) none),
 i1 4 (.mov false (.c (.int .i64 (-1)))),
 mv 5 17] [2, 4, 5])
 (.seq (.reg none [mv 19 0,
 i1 20 (.call 326 [(.t 19), (.c (.str [43]))]),
 mv 18 20] [0, 2, 4, 5, 18])
 (.cond (.t 18) (.reg none [mv 21 0,
 i1 22 (.sslice (.t 21) (some (.c (.int .i64 1))) none),
 mv 5 22] [2, 4, 5])
 .skip)))))
 (.seq (.reg none [mv 24 5,
 i1 25 (.call 327 [(.t 24), (.c (.str [46]))]),
 i1 23 (.movT (.t 25)),
 i1 26 (.extract (.t 23) 0),
 i1 27 (.extract (.t 23) 1),
 i1 28 (.extract (.t 23) 2),
 mv 6 26,
 mv 7 27,
 mv 8 28] [2, 4, 6, 7, 8])
 (.seq (.seq (.reg (some 14) [mv 29 6,
 i1 30 (.len 1 (.t 29)),
 mv 31 7,
 i1 32 (.len 1 (.t 31)),
 i1 33 (.bin .add (.t 30) (.t 32)),
 i1 34 (.bin .eql (.t 33) (.c (.int .i64 0))),
 mv 35 34,
 mvg 36 6 35 false,
 i1g 37 35 false (.call 328 [(.t 36)]),
 i1g 38 35 false (.un .not (.t 37)),
 i1 39 (.pick (.t 35) (.c (.bool true)) (.t 38)),
 mv 40 39,
 mvg 41 7 40 false,
 i1g 42 40 false (.call 328 [(.t 41)]),
 i1g 43 40 false (.un .not (.t 42)),
 i1 44 (.pick (.t 40) (.c (.bool true)) (.t 43))] [2, 4, 6, 7, 8, 44])
 (.cond (.t 44) (.seq (.reg none [i1 45 (.build [.int .i64 0, .int .i64 0, .str [], .sl true 4 0 []] []),
 i0 (.store 4 (.t 2) (.t 45)),
 i1 3 (.mov false (.c (.int .i64 11)))] [2, 3])
 .ret)
 .skip))
 (.seq (.reg none [mv 47 6,
 i1 48 (.bin .add (.c (.str [48])) (.t 47)),
 i1 49 (.call 329 [(.t 48)]),
 i1 46 (.movT (.t 49)),
 i1 50 (.extract (.t 46) 0),
 i1 51 (.extract (.t 46) 1),
 mv 9 50,
 mv 10 51] [2, 4, 7, 8, 9, 10])
 (.seq (.seq (.reg none [mv 52 10,
 i1 53 (.bin .neq (.t 52) (.c (.int .i64 0)))] [2, 4, 7, 8, 9, 10, 53])
 (.cond (.t 53) (.seq (.reg none [i1 54 (.build [.int .i64 0, .int .i64 0, .str [], .sl true 4 0 []] []),
 mv 55 10,
 i0 (.store 4 (.t 2) (.t 54)),
 mv 3 55] [2, 3])
 .ret)
 .skip))
 (.seq (.seq (.reg none [mv 56 8,
 i1 57 (.un .not (.t 56))] [2, 4, 7, 9, 57])
 (.cond (.t 57) (.seq (.reg none [mv 58 4,
 mv 59 9,
 i1 60 (.bin .mul (.t 58) (.t 59)),
 i1 61 (.build [.int .i64 0, .int .i64 0, .str [], .sl true 4 0 []] [(0, 1, (.c (.int .i64 2))), (1, 1, (.t 60))]),
 i0 (.store 4 (.t 2) (.t 61)),
 i1 3 (.mov false (.c (.int .i64 0)))] [2, 3])
 .ret)
 .skip))
 (.seq (.reg none [mv 62 4,
 mv 63 9,
 i1 64 (.bin .mul (.t 63) (.c (.int .i64 1000000))),
 mv 65 7,
 i1 66 (.call 330 [(.t 65)]),
 i1 67 (.bin .add (.t 64) (.t 66)),
 i1 68 (.bin .mul (.t 62) (.t 67)),
 i1 69 (.build [.int .i64 0, .int .i64 0, .str [], .sl true 4 0 []] [(0, 1, (.c (.int .i64 3))), (1, 1, (.t 68))]),
 i1 11 (.allocL [.int .i64 0, .int .i64 0, .str [], .sl true 4 0 []]),
 i0 (.store 4 (.t 11) (.t 69))] [2, 11])
 (.seq (.seq (.reg none [i1 70 (.load 4 true (.t 11)),
 i1 71 (.call 331 [(.t 70)]),
 i1 72 (.bin .neq (.t 71) (.c (.int .i64 0)))] [2, 11, 72])
 (.cond (.t 72) (.seq (.reg none [i1 73 (.build [.int .i64 0, .int .i64 0, .str [], .sl true 4 0 []] []),
 i0 (.store 4 (.t 2) (.t 73)),
 i1 3 (.mov false (.c (.int .i64 5)))] [2, 3])
 .ret)
 .skip))
 (.seq (.reg none [i1 74 (.load 4 true (.t 11)),
 i0 (.store 4 (.t 2) (.t 74)),
 i1 3 (.mov false (.c (.int .i64 0)))] [2, 3])
 .ret))))))))))))
def res_num_Parse : List IRes := [⟨2, false, some (4, true)⟩, ⟨3, true, none⟩]
theorem is_num_Parse : fnIs Go.Proofs.Tryz.prog 294 75 res_num_Parse ir_num_Parse = true := by kernel_rfl
theorem num_Parse_fn {s_0} {s : Store} {Q : List AV → Store → Prop}  : ok (num_Parse s_0) (fun r => Q [.agg [.int .i64 r.1.Kind, .int .i64 r.1.N, .str r.1.S.b, .sl false 4 r.1.L.length (flat r.1.L)], .int .i64 r.2] s) → FN Go.Proofs.Tryz.prog 294 [.str s_0.b] s Q := by
  intro h
  refine FN.of (draw_ok mix) is_num_Parse rfl (Nat.le_of_ble_eq_true rfl) ?_
  revert h
  rw [ir_num_Parse, res_num_Parse, num_Parse]
  repeat' (first
    | with_reducible exact tt_to
    | with_reducible refine and_to ?_ ?_
    | with_reducible exact im_and
    | with_reducible refine im_to ?_
    | with_reducible refine call_to (fun _ (h : strings_HasPrefix s_0 (Str.mk [45]) = some _) => strings_HasPrefix_fe h) (fun r4 => ?_)
    | with_reducible refine call_to_q (fun _ (h : strings_HasPrefix s_0 (Str.mk [45]) = some _) => strings_HasPrefix_fe h) (fun _ => rfl) (fun r4 => ?_)
    | with_reducible refine call_to (fun _ (h : strings_HasPrefix s_0 (Str.mk [45]) = some _) => (by refine FE_cast ?_ (strings_HasPrefix_fe h); simp -implicitDefEqProofs only [go_sem, start, startE, resVs, resV, resC, allV, retK, Nat.reduceBEq, Nat.reduceAdd, Nat.reduceMul, Nat.reduceLeDiff, Nat.reduceEqDiff, Nat.reduceBNe, Nat.ble_eq, UInt8.reduceToNat, UInt32.reduceToNat])) (fun r4 => ?_)
    | with_reducible refine call_to_q (fun _ (h : strings_HasPrefix s_0 (Str.mk [45]) = some _) => (by refine FE_cast ?_ (strings_HasPrefix_fe h); simp -implicitDefEqProofs only [go_sem, start, startE, resVs, resV, resC, allV, retK, Nat.reduceBEq, Nat.reduceAdd, Nat.reduceMul, Nat.reduceLeDiff, Nat.reduceEqDiff, Nat.reduceBNe, Nat.ble_eq, UInt8.reduceToNat, UInt32.reduceToNat])) (fun _ => rfl) (fun r4 => ?_)
    | with_reducible refine call_to (fun _ (h : strings_HasPrefix s_0 (Str.mk [43]) = some _) => strings_HasPrefix_fe h) (fun r5 => ?_)
    | with_reducible refine call_to_q (fun _ (h : strings_HasPrefix s_0 (Str.mk [43]) = some _) => strings_HasPrefix_fe h) (fun _ => rfl) (fun r5 => ?_)
    | with_reducible refine call_to (fun _ (h : strings_HasPrefix s_0 (Str.mk [43]) = some _) => (by refine FE_cast ?_ (strings_HasPrefix_fe h); simp -implicitDefEqProofs only [go_sem, start, startE, resVs, resV, resC, allV, retK, Nat.reduceBEq, Nat.reduceAdd, Nat.reduceMul, Nat.reduceLeDiff, Nat.reduceEqDiff, Nat.reduceBNe, Nat.ble_eq, UInt8.reduceToNat, UInt32.reduceToNat])) (fun r5 => ?_)
    | with_reducible refine call_to_q (fun _ (h : strings_HasPrefix s_0 (Str.mk [43]) = some _) => (by refine FE_cast ?_ (strings_HasPrefix_fe h); simp -implicitDefEqProofs only [go_sem, start, startE, resVs, resV, resC, allV, retK, Nat.reduceBEq, Nat.reduceAdd, Nat.reduceMul, Nat.reduceLeDiff, Nat.reduceEqDiff, Nat.reduceBNe, Nat.ble_eq, UInt8.reduceToNat, UInt32.reduceToNat])) (fun _ => rfl) (fun r5 => ?_)
    | with_reducible refine call_to (fun _ (h : strings_Cut body3 (Str.mk [46]) = some _) => strings_Cut_fe h) (fun r6 => ?_)
    | with_reducible refine call_to_q (fun _ (h : strings_Cut body3 (Str.mk [46]) = some _) => strings_Cut_fe h) (fun _ => rfl) (fun r6 => ?_)
    | with_reducible refine call_to (fun _ (h : strings_Cut body3 (Str.mk [46]) = some _) => (by refine FE_cast ?_ (strings_Cut_fe h); simp -implicitDefEqProofs only [go_sem, start, startE, resVs, resV, resC, allV, retK, Nat.reduceBEq, Nat.reduceAdd, Nat.reduceMul, Nat.reduceLeDiff, Nat.reduceEqDiff, Nat.reduceBNe, Nat.ble_eq, UInt8.reduceToNat, UInt32.reduceToNat])) (fun r6 => ?_)
    | with_reducible refine call_to_q (fun _ (h : strings_Cut body3 (Str.mk [46]) = some _) => (by refine FE_cast ?_ (strings_Cut_fe h); simp -implicitDefEqProofs only [go_sem, start, startE, resVs, resV, resC, allV, retK, Nat.reduceBEq, Nat.reduceAdd, Nat.reduceMul, Nat.reduceLeDiff, Nat.reduceEqDiff, Nat.reduceBNe, Nat.ble_eq, UInt8.reduceToNat, UInt32.reduceToNat])) (fun _ => rfl) (fun r6 => ?_)
    | with_reducible refine call_to_g rfl (fun _ (h : num_all r6.1 = some _) => num_all_fe h) (fun _ => rfl) (fun r7 => ?_)
    | with_reducible refine call_to_g rfl (fun _ (h : num_all r6.1 = some _) => (by refine FE_cast ?_ (num_all_fe h); simp -implicitDefEqProofs only [go_sem, start, startE, resVs, resV, resC, allV, retK, Nat.reduceBEq, Nat.reduceAdd, Nat.reduceMul, Nat.reduceLeDiff, Nat.reduceEqDiff, Nat.reduceBNe, Nat.ble_eq, UInt8.reduceToNat, UInt32.reduceToNat])) (fun _ => rfl) (fun r7 => ?_)
    | with_reducible refine call_to_g rfl (fun _ (h : num_all r6.2.1 = some _) => num_all_fe h) (fun _ => rfl) (fun r8 => ?_)
    | with_reducible refine call_to_g rfl (fun _ (h : num_all r6.2.1 = some _) => (by refine FE_cast ?_ (num_all_fe h); simp -implicitDefEqProofs only [go_sem, start, startE, resVs, resV, resC, allV, retK, Nat.reduceBEq, Nat.reduceAdd, Nat.reduceMul, Nat.reduceLeDiff, Nat.reduceEqDiff, Nat.reduceBNe, Nat.ble_eq, UInt8.reduceToNat, UInt32.reduceToNat])) (fun _ => rfl) (fun r8 => ?_)
    | with_reducible refine call_to (fun _ (h : num_Digits (Str.mk ((Str.mk [48]).b ++ r6.1.b)) = some _) => num_Digits_fe h) (fun r9 => ?_)
    | with_reducible refine call_to_q (fun _ (h : num_Digits (Str.mk ((Str.mk [48]).b ++ r6.1.b)) = some _) => num_Digits_fe h) (fun _ => rfl) (fun r9 => ?_)
    | ((fail_if_success (have _x := r9)); with_reducible refine call_to (fun _ h => num_Digits_fe h) (fun r9 => ?_))
    | with_reducible refine call_to (fun _ (h : num_Digits (Str.mk ((Str.mk [48]).b ++ r6.1.b)) = some _) => (by refine FE_cast ?_ (num_Digits_fe h); simp -implicitDefEqProofs only [go_sem, start, startE, resVs, resV, resC, allV, retK, Nat.reduceBEq, Nat.reduceAdd, Nat.reduceMul, Nat.reduceLeDiff, Nat.reduceEqDiff, Nat.reduceBNe, Nat.ble_eq, UInt8.reduceToNat, UInt32.reduceToNat])) (fun r9 => ?_)
    | with_reducible refine call_to_q (fun _ (h : num_Digits (Str.mk ((Str.mk [48]).b ++ r6.1.b)) = some _) => (by refine FE_cast ?_ (num_Digits_fe h); simp -implicitDefEqProofs only [go_sem, start, startE, resVs, resV, resC, allV, retK, Nat.reduceBEq, Nat.reduceAdd, Nat.reduceMul, Nat.reduceLeDiff, Nat.reduceEqDiff, Nat.reduceBNe, Nat.ble_eq, UInt8.reduceToNat, UInt32.reduceToNat])) (fun _ => rfl) (fun r9 => ?_)
    | with_reducible refine call_to (fun _ (h : num_millionths r6.2.1 = some _) => num_millionths_fe h) (fun r10 => ?_)
    | with_reducible refine call_to_q (fun _ (h : num_millionths r6.2.1 = some _) => num_millionths_fe h) (fun _ => rfl) (fun r10 => ?_)
    | with_reducible refine call_to (fun _ (h : num_millionths r6.2.1 = some _) => (by refine FE_cast ?_ (num_millionths_fe h); simp -implicitDefEqProofs only [go_sem, start, startE, resVs, resV, resC, allV, retK, Nat.reduceBEq, Nat.reduceAdd, Nat.reduceMul, Nat.reduceLeDiff, Nat.reduceEqDiff, Nat.reduceBNe, Nat.ble_eq, UInt8.reduceToNat, UInt32.reduceToNat])) (fun r10 => ?_)
    | with_reducible refine call_to_q (fun _ (h : num_millionths r6.2.1 = some _) => (by refine FE_cast ?_ (num_millionths_fe h); simp -implicitDefEqProofs only [go_sem, start, startE, resVs, resV, resC, allV, retK, Nat.reduceBEq, Nat.reduceAdd, Nat.reduceMul, Nat.reduceLeDiff, Nat.reduceEqDiff, Nat.reduceBNe, Nat.ble_eq, UInt8.reduceToNat, UInt32.reduceToNat])) (fun _ => rfl) (fun r10 => ?_)
    | with_reducible refine call_to (fun _ (h : num_Check (api_Value.mk 3 (w64 (sign2 * (w64 ((w64 (r9.1 * 1000000)) + r10)))) (Str.mk []) ([] : List api_Value)) = some _) => num_Check_fe h) (fun r11 => ?_)
    | with_reducible refine call_to_q (fun _ (h : num_Check (api_Value.mk 3 (w64 (sign2 * (w64 ((w64 (r9.1 * 1000000)) + r10)))) (Str.mk []) ([] : List api_Value)) = some _) => num_Check_fe h) (fun _ => rfl) (fun r11 => ?_)
    | with_reducible refine call_to (fun _ (h : num_Check (api_Value.mk 3 (w64 (sign2 * (w64 ((w64 (r9.1 * 1000000)) + r10)))) (Str.mk []) ([] : List api_Value)) = some _) => (by refine FE_cast ?_ (num_Check_fe h); simp -implicitDefEqProofs only [go_sem, start, startE, resVs, resV, resC, allV, retK, Nat.reduceBEq, Nat.reduceAdd, Nat.reduceMul, Nat.reduceLeDiff, Nat.reduceEqDiff, Nat.reduceBNe, Nat.ble_eq, UInt8.reduceToNat, UInt32.reduceToNat])) (fun r11 => ?_)
    | with_reducible refine call_to_q (fun _ (h : num_Check (api_Value.mk 3 (w64 (sign2 * (w64 ((w64 (r9.1 * 1000000)) + r10)))) (Str.mk []) ([] : List api_Value)) = some _) => (by refine FE_cast ?_ (num_Check_fe h); simp -implicitDefEqProofs only [go_sem, start, startE, resVs, resV, resC, allV, retK, Nat.reduceBEq, Nat.reduceAdd, Nat.reduceMul, Nat.reduceLeDiff, Nat.reduceEqDiff, Nat.reduceBNe, Nat.ble_eq, UInt8.reduceToNat, UInt32.reduceToNat])) (fun _ => rfl) (fun r11 => ?_)
    | ((with_reducible refine join_to (fun ((sign2, body3) : Int × Str) => ⟨[(2, .loc [.int .i64 0, .int .i64 0, .str (Str.mk []).b, .sl true 4 ([] : List api_Value).length (flat ([] : List api_Value))]), (4, .int .i64 sign2), (5, .str body3.b)], [], s⟩) (fun J => ?_) ?_); rotate_left; rintro ⟨sign2, body3⟩)
    | simp -implicitDefEqProofs only [go_sem, start, startE, resVs, resV, resC, allV, retK, Nat.reduceBEq, Nat.reduceAdd, Nat.reduceMul, Nat.reduceLeDiff, Nat.reduceEqDiff, Nat.reduceBNe, Nat.ble_eq, UInt8.reduceToNat, UInt32.reduceToNat])
theorem num_Parse_fe {s_0} {s : Store} {r : api_Value × Int}  (h : num_Parse s_0 = some r) : FE Go.Proofs.Tryz.prog 294 [.str s_0.b] s [.agg [.int .i64 r.1.Kind, .int .i64 r.1.N, .str r.1.S.b, .sl false 4 r.1.L.length (flat r.1.L)], .int .i64 r.2] s := num_Parse_fn  ⟨r, h, rfl, rfl⟩
def lex_scan_regulars (s_0 : lex_scan) : Option (lex_Token × Int × lex_scan) :=
  bnd (lex_scan_word s_0) fun r1 =>
  if !r1.2.1 then
    some ((lex_Token.mk 0 0 0 (api_Value.mk 0 0 (Str.mk []) ([] : List api_Value)) (Str.mk [])), 6, r1.2.2)
  else
    need (0 ≤ (0 : Int) ∧ (0 : Int) < r1.1.b.length) <|
    if ((((decide (((ix r1.1.b 0).toNat : Int) ≥ 48)) && (decide (((ix r1.1.b 0).toNat : Int) ≤ 57))) || (((ix r1.1.b 0).toNat : Int) == 43)) || (((ix r1.1.b 0).toNat : Int) == 45)) || (((ix r1.1.b 0).toNat : Int) == 46) then
      bnd (num_Parse r1.1) fun r2 =>
      some ((lex_Token.mk 1 0 0 r2.1 (Str.mk [])), r2.2, r1.2.2)
    else
      some ((lex_Token.mk 6 0 0 (api_Value.mk 0 0 (Str.mk []) ([] : List api_Value)) r1.1), 0, r1.2.2)
def ir_lex_scan_regulars : IC :=
 (.seq (.reg none [i1 2 (.allocL [.int .i64 0, .int .i64 0, .int .i64 0, .int .i64 0, .int .i64 0, .str [], .sl true 4 0 [], .str []]),
 i1 3 (.mov false (.c (.int .i64 0)))] [0, 2])
 (.seq (.reg none [mv 10 0,
 i1 11 (.call 260 [(.t 10)]),
 i1 9 (.movT (.t 11)),
 i1 12 (.extract (.t 9) 0),
 i1 13 (.extract (.t 9) 1),
 mv 4 12,
 mv 5 13] [2, 4, 5])
 (.seq (.seq (.reg none [mv 14 5,
 i1 15 (.un .not (.t 14))] [2, 4, 15])
 (.cond (.t 15) (.seq (.reg none [i1 16 (.build [.int .i64 0, .int .i64 0, .int .i64 0, .int .i64 0, .int .i64 0, .str [], .sl true 4 0 [], .str []] []),
 i0 (.store 8 (.t 2) (.t 16)),
 i1 3 (.mov false (.c (.int .i64 6)))] [2, 3])
 .ret)
 .skip))
 (.seq (.seq (.reg none [mv 17 4,
 i1 18 (.sindex (.t 17) (.c (.int .i64 0))),
 mv 6 18] [2, 4, 6])
 (.seq (.reg none [mv 19 6,
 i1 20 (.bin .geq (.t 19) (.c (.int .u8 48))),
 mv 21 20,
 mvg 22 6 21 true,
 i1g 23 21 true (.bin .leq (.t 22) (.c (.int .u8 57))),
 i1 24 (.pick (.t 21) (.t 23) (.c (.bool false))),
 mv 25 24,
 mvg 26 6 25 false,
 i1g 27 25 false (.bin .eql (.t 26) (.c (.int .u8 43))),
 i1 28 (.pick (.t 25) (.c (.bool true)) (.t 27)),
 mv 29 28,
 mvg 30 6 29 false,
 i1g 31 29 false (.bin .eql (.t 30) (.c (.int .u8 45))),
 i1 32 (.pick (.t 29) (.c (.bool true)) (.t 31)),
 mv 33 32,
 mvg 34 6 33 false,
 i1g 35 33 false (.bin .eql (.t 34) (.c (.int .u8 46))),
 i1 36 (.pick (.t 33) (.c (.bool true)) (.t 35))] [2, 4, 36])
 (.cond (.t 36) (.seq (.reg none [mv 38 4,
 i1 39 (.call 294 [(.t 38)]),
 i1 37 (.movT (.t 39)),
 i1 40 (.extract (.t 37) 0),
 i1 41 (.extract (.t 37) 1),
 i1 7 (.allocL [.int .i64 0, .int .i64 0, .str [], .sl true 4 0 []]),
 i0 (.store 4 (.t 7) (.t 40)),
 mv 8 41] [2, 7, 8])
 (.seq (.reg none [i1 42 (.load 4 true (.t 7)),
 i1 43 (.build [.int .i64 0, .int .i64 0, .int .i64 0, .int .i64 0, .int .i64 0, .str [], .sl true 4 0 [], .str []] [(0, 1, (.c (.int .i64 1))), (3, 4, (.t 42))]),
 mv 44 8,
 i0 (.store 8 (.t 2) (.t 43)),
 mv 3 44] [2, 3])
 .ret))
 .skip)))
 (.seq (.reg none [mv 45 4,
 i1 46 (.build [.int .i64 0, .int .i64 0, .int .i64 0, .int .i64 0, .int .i64 0, .str [], .sl true 4 0 [], .str []] [(0, 1, (.c (.int .i64 6))), (7, 1, (.t 45))]),
 i0 (.store 8 (.t 2) (.t 46)),
 i1 3 (.mov false (.c (.int .i64 0)))] [2, 3])
 .ret)))))
def res_lex_scan_regulars : List IRes := [⟨2, false, some (8, true)⟩, ⟨3, true, none⟩]
theorem is_lex_scan_regulars : fnIs Go.Proofs.Tryz.prog 256 47 res_lex_scan_regulars ir_lex_scan_regulars = true := by kernel_rfl
theorem lex_scan_regulars_fn {s_0} {B0 : Nat} {s : Store} {Q : List AV → Store → Prop} (hB0 : s B0 = some (.cells [s_0.Builder.a, s_0.Builder.b, .sl false 1 s_0.b_.length (flat s_0.b_), .int .i64 s_0.at_, .bool s_0.last_])) : ok (lex_scan_regulars s_0) (fun r => Q [.agg [.int .i64 r.1.Kind, .int .i64 r.1.From, .int .i64 r.1.To, .int .i64 r.1.V.Kind, .int .i64 r.1.V.N, .str r.1.V.S.b, .sl false 4 r.1.V.L.length (flat r.1.V.L), .str r.1.S.b], .int .i64 r.2.1] (s.set B0 (.cells [r.2.2.Builder.a, r.2.2.Builder.b, .sl false 1 r.2.2.b_.length (flat r.2.2.b_), .int .i64 r.2.2.at_, .bool r.2.2.last_]))) → FN Go.Proofs.Tryz.prog 256 [.ref B0 0] s Q := by
  have hS : s = (s.set B0 (.cells [s_0.Builder.a, s_0.Builder.b, .sl false 1 s_0.b_.length (flat s_0.b_), .int .i64 s_0.at_, .bool s_0.last_])) := by simp only [set_eq' hB0]
  rw [hS]
  intro h
  refine FN.of (draw_ok mix) is_lex_scan_regulars rfl (Nat.le_of_ble_eq_true rfl) ?_
  revert h
  rw [ir_lex_scan_regulars, res_lex_scan_regulars, lex_scan_regulars]
  repeat' (first
    | with_reducible exact tt_to
    | with_reducible refine and_to ?_ ?_
    | with_reducible exact im_and
    | with_reducible refine im_to ?_
    | with_reducible refine fun hh => lex_scan_word_fn (B0 := B0) (by simp -implicitDefEqProofs only [go_sem, start, startE, resVs, resV, resC, allV, retK, Nat.reduceBEq, Nat.reduceAdd, Nat.reduceMul, Nat.reduceLeDiff, Nat.reduceEqDiff, Nat.reduceBNe, Nat.ble_eq, UInt8.reduceToNat, UInt32.reduceToNat] <;> simp only [encM_nil])   (ok_mono (show ok (lex_scan_word s_0) _ from hh) fun r1 => ?_)
    | with_reducible refine fun hh => FN_cast (by simp -implicitDefEqProofs only [go_sem, start, startE, resVs, resV, resC, allV, retK, Nat.reduceBEq, Nat.reduceAdd, Nat.reduceMul, Nat.reduceLeDiff, Nat.reduceEqDiff, Nat.reduceBNe, Nat.ble_eq, UInt8.reduceToNat, UInt32.reduceToNat]) (lex_scan_word_fn (B0 := B0) (by simp -implicitDefEqProofs only [go_sem, start, startE, resVs, resV, resC, allV, retK, Nat.reduceBEq, Nat.reduceAdd, Nat.reduceMul, Nat.reduceLeDiff, Nat.reduceEqDiff, Nat.reduceBNe, Nat.ble_eq, UInt8.reduceToNat, UInt32.reduceToNat] <;> simp only [encM_nil])   (ok_mono (show ok (lex_scan_word s_0) _ from hh) fun r1 => ?_))
    | with_reducible refine call_to (fun _ (h : num_Parse r1.1 = some _) => num_Parse_fe h) (fun r2 => ?_)
    | with_reducible refine call_to_q (fun _ (h : num_Parse r1.1 = some _) => num_Parse_fe h) (fun _ => rfl) (fun r2 => ?_)
    | with_reducible refine call_to (fun _ (h : num_Parse r1.1 = some _) => (by refine FE_cast ?_ (num_Parse_fe h); simp -implicitDefEqProofs only [go_sem, start, startE, resVs, resV, resC, allV, retK, Nat.reduceBEq, Nat.reduceAdd, Nat.reduceMul, Nat.reduceLeDiff, Nat.reduceEqDiff, Nat.reduceBNe, Nat.ble_eq, UInt8.reduceToNat, UInt32.reduceToNat])) (fun r2 => ?_)
    | with_reducible refine call_to_q (fun _ (h : num_Parse r1.1 = some _) => (by refine FE_cast ?_ (num_Parse_fe h); simp -implicitDefEqProofs only [go_sem, start, startE, resVs, resV, resC, allV, retK, Nat.reduceBEq, Nat.reduceAdd, Nat.reduceMul, Nat.reduceLeDiff, Nat.reduceEqDiff, Nat.reduceBNe, Nat.ble_eq, UInt8.reduceToNat, UInt32.reduceToNat])) (fun _ => rfl) (fun r2 => ?_)
    | simp -implicitDefEqProofs only [go_sem, start, startE, resVs, resV, resC, allV, retK, Nat.reduceBEq, Nat.reduceAdd, Nat.reduceMul, Nat.reduceLeDiff, Nat.reduceEqDiff, Nat.reduceBNe, Nat.ble_eq, UInt8.reduceToNat, UInt32.reduceToNat])
def lex_scan_peek (s_0 : lex_scan) : Option (UInt8 × Bool) :=
  if decide (s_0.at_ ≥ (s_0.b_.length : Int)) then
    some (0, false)
  else
    need (0 ≤ s_0.at_ ∧ s_0.at_ < s_0.b_.length) <|
    some (ix s_0.b_ s_0.at_, true)
def ir_lex_scan_peek : IC :=
 (.seq (.reg none [i1 2 (.mov false (.c (.int .u8 0))),
 i1 3 (.mov false (.c (.bool false)))] [0])
 (.seq (.seq (.reg (some 10) [mv 4 0,
 i1 5 (.nilCheck (.t 4)),
 i1 6 (.fieldAddr 3 (.t 5)),
 i1 7 (.loadR [.int .i64 0] false (.t 6)),
 mv 8 0,
 i1 9 (.nilCheck (.t 8)),
 i1 10 (.fieldAddr 2 (.t 9)),
 i1 11 (.loadR [.sl false 1 0 []] false (.t 10)),
 i1 12 (.len 0 (.t 11)),
 i1 13 (.bin .geq (.t 7) (.t 12))] [0, 13])
 (.cond (.t 13) (.seq (.reg none [i1 2 (.mov false (.c (.int .u8 0))),
 i1 3 (.mov false (.c (.bool false)))] [2, 3])
 .ret)
 .skip))
 (.seq (.reg (some 12) [mv 14 0,
 i1 15 (.nilCheck (.t 14)),
 i1 16 (.fieldAddr 2 (.t 15)),
 i1 17 (.loadR [.sl false 1 0 []] false (.t 16)),
 mv 18 0,
 i1 19 (.nilCheck (.t 18)),
 i1 20 (.fieldAddr 3 (.t 19)),
 i1 21 (.loadR [.int .i64 0] false (.t 20)),
 i1 22 (.indexAddr [.int .u8 0] (.t 17) (.t 21)),
 i1 23 (.load 1 false (.t 22)),
 mv 2 23,
 i1 3 (.mov false (.c (.bool true)))] [2, 3])
 .ret)))
def res_lex_scan_peek : List IRes := [⟨2, true, none⟩, ⟨3, true, none⟩]
theorem is_lex_scan_peek : fnIs Go.Proofs.Tryz.prog 295 24 res_lex_scan_peek ir_lex_scan_peek = true := by kernel_rfl
theorem lex_scan_peek_fn {s_0} {B0 : Nat} {s : Store} {Q : List AV → Store → Prop} (hB0 : s B0 = some (.cells [s_0.Builder.a, s_0.Builder.b, .sl false 1 s_0.b_.length (flat s_0.b_), .int .i64 s_0.at_, .bool s_0.last_])) : ok (lex_scan_peek s_0) (fun r => Q [.int .u8 r.1.toNat, .bool r.2] s) → FN Go.Proofs.Tryz.prog 295 [.ref B0 0] s Q := by
  have hS : s = (s.set B0 (.cells [s_0.Builder.a, s_0.Builder.b, .sl false 1 s_0.b_.length (flat s_0.b_), .int .i64 s_0.at_, .bool s_0.last_])) := by simp only [set_eq' hB0]
  rw [hS]
  intro h
  refine FN.of (draw_ok mix) is_lex_scan_peek rfl (Nat.le_of_ble_eq_true rfl) ?_
  revert h
  rw [ir_lex_scan_peek, res_lex_scan_peek, lex_scan_peek]
  repeat' (first
    | with_reducible exact tt_to
    | with_reducible refine and_to ?_ ?_
    | with_reducible exact im_and
    | with_reducible refine im_to ?_
    | simp -implicitDefEqProofs only [go_sem, start, startE, resVs, resV, resC, allV, retK, Nat.reduceBEq, Nat.reduceAdd, Nat.reduceMul, Nat.reduceLeDiff, Nat.reduceEqDiff, Nat.reduceBNe, Nat.ble_eq, UInt8.reduceToNat, UInt32.reduceToNat])
theorem lex_scan_peek_fe {s_0} {B0 : Nat} {s : Store} {r : UInt8 × Bool} (hB0 : s B0 = some (.cells [s_0.Builder.a, s_0.Builder.b, .sl false 1 s_0.b_.length (flat s_0.b_), .int .i64 s_0.at_, .bool s_0.last_])) (h : lex_scan_peek s_0 = some r) : FE Go.Proofs.Tryz.prog 295 [.ref B0 0] s [.int .u8 r.1.toNat, .bool r.2] s := lex_scan_peek_fn hB0 ⟨r, h, rfl, rfl⟩
def lex_scan_open (s_0 : lex_scan) : Option (Int) :=
  if s_0.last_ then
    some 10
  else
    some 6
def ir_lex_scan_open : IC :=
 (.seq (.reg none [i1 2 (.mov false (.c (.int .i64 0)))] [0])
 (.seq (.seq (.reg none [mv 3 0,
 i1 4 (.nilCheck (.t 3)),
 i1 5 (.fieldAddr 4 (.t 4)),
 i1 6 (.loadR [.bool false] false (.t 5))] [6])
 (.cond (.t 6) (.seq (.reg none [i1 2 (.mov false (.c (.int .i64 10)))] [2])
 .ret)
 .skip))
 (.seq (.reg none [i1 2 (.mov false (.c (.int .i64 6)))] [2])
 .ret)))
def res_lex_scan_open : List IRes := [⟨2, true, none⟩]
theorem is_lex_scan_open : fnIs Go.Proofs.Tryz.prog 296 7 res_lex_scan_open ir_lex_scan_open = true := by kernel_rfl
theorem lex_scan_open_fn {s_0} {B0 : Nat} {s : Store} {Q : List AV → Store → Prop} (hB0 : s B0 = some (.cells [s_0.Builder.a, s_0.Builder.b, .sl false 1 s_0.b_.length (flat s_0.b_), .int .i64 s_0.at_, .bool s_0.last_])) : ok (lex_scan_open s_0) (fun r => Q [.int .i64 r] s) → FN Go.Proofs.Tryz.prog 296 [.ref B0 0] s Q := by
  have hS : s = (s.set B0 (.cells [s_0.Builder.a, s_0.Builder.b, .sl false 1 s_0.b_.length (flat s_0.b_), .int .i64 s_0.at_, .bool s_0.last_])) := by simp only [set_eq' hB0]
  rw [hS]
  intro h
  refine FN.of (draw_ok mix) is_lex_scan_open rfl (Nat.le_of_ble_eq_true rfl) ?_
  revert h
  rw [ir_lex_scan_open, res_lex_scan_open, lex_scan_open]
  repeat' (first
    | with_reducible exact tt_to
    | with_reducible refine and_to ?_ ?_
    | with_reducible exact im_and
    | with_reducible refine im_to ?_
    | simp -implicitDefEqProofs only [go_sem, start, startE, resVs, resV, resC, allV, retK, Nat.reduceBEq, Nat.reduceAdd, Nat.reduceMul, Nat.reduceLeDiff, Nat.reduceEqDiff, Nat.reduceBNe, Nat.ble_eq, UInt8.reduceToNat, UInt32.reduceToNat])
theorem lex_scan_open_fe {s_0} {B0 : Nat} {s : Store} {r : Int} (hB0 : s B0 = some (.cells [s_0.Builder.a, s_0.Builder.b, .sl false 1 s_0.b_.length (flat s_0.b_), .int .i64 s_0.at_, .bool s_0.last_])) (h : lex_scan_open s_0 = some r) : FE Go.Proofs.Tryz.prog 296 [.ref B0 0] s [.int .i64 r] s := lex_scan_open_fn hB0 ⟨r, h, rfl, rfl⟩
def lex_hex (c_0 : UInt8) : Option (Int) :=
  if (decide ((c_0.toNat : Int) ≥ 48)) && (decide ((c_0.toNat : Int) ≤ 57)) then
    some (w64 (((u8w ((c_0.toNat : Int) - 48)).toNat : Int)))
  else
    if (decide ((c_0.toNat : Int) ≥ 97)) && (decide ((c_0.toNat : Int) ≤ 102)) then
      some (w64 ((w64 (((u8w ((c_0.toNat : Int) - 97)).toNat : Int))) + 10))
    else
      if (decide ((c_0.toNat : Int) ≥ 65)) && (decide ((c_0.toNat : Int) ≤ 70)) then
        some (w64 ((w64 (((u8w ((c_0.toNat : Int) - 65)).toNat : Int))) + 10))
      else
        some (-1)
def ir_lex_hex : IC :=
 (.seq (.reg none [i1 2 (.mov false (.c (.int .i64 0)))] [0])
 (.seq (.block 0 (.seq (.reg none [mv 4 0,
 i1 5 (.bin .geq (.t 4) (.c (.int .u8 48))),
 mv 6 5,
 mvg 7 0 6 true,
 i1g 8 6 true (.bin .leq (.t 7) (.c (.int .u8 57))),
 i1 9 (.pick (.t 6) (.t 8) (.c (.bool false))),
 mv 3 9] [0, 3])
 (.cond (.t 3) (.seq (.reg none [mv 10 0,
 i1 11 (.bin .sub (.t 10) (.c (.int .u8 48))),
 i1 12 (.cvtInt .i64 (.t 11)),
 mv 2 12] [2])
 .ret)
 (.seq (.reg none [mv 14 0,
 i1 15 (.bin .geq (.t 14) (.c (.int .u8 97))),
 mv 16 15,
 mvg 17 0 16 true,
 i1g 18 16 true (.bin .leq (.t 17) (.c (.int .u8 102))),
 i1 19 (.pick (.t 16) (.t 18) (.c (.bool false))),
 mv 13 19] [0, 13])
 (.cond (.t 13) (.seq (.reg none [mv 20 0,
 i1 21 (.bin .sub (.t 20) (.c (.int .u8 97))),
 i1 22 (.cvtInt .i64 (.t 21)),
 i1 23 (.bin .add (.t 22) (.c (.int .i64 10))),
 mv 2 23] [2])
 .ret)
 (.seq (.reg none [mv 25 0,
 i1 26 (.bin .geq (.t 25) (.c (.int .u8 65))),
 mv 27 26,
 mvg 28 0 27 true,
 i1g 29 27 true (.bin .leq (.t 28) (.c (.int .u8 70))),
 i1 30 (.pick (.t 27) (.t 29) (.c (.bool false))),
 mv 24 30] [0, 24])
 (.cond (.t 24) (.seq (.reg none [mv 31 0,
 i1 32 (.bin .sub (.t 31) (.c (.int .u8 65))),
 i1 33 (.cvtInt .i64 (.t 32)),
 i1 34 (.bin .add (.t 33) (.c (.int .i64 10))),
 mv 2 34] [2])
 .ret)
 .skip)))))))
 (.seq (.reg none [i1 2 (.mov false (.c (.int .i64 (-1))))] [2])
 .ret)))
def res_lex_hex : List IRes := [⟨2, true, none⟩]
theorem is_lex_hex : fnIs Go.Proofs.Tryz.prog 302 35 res_lex_hex ir_lex_hex = true := by kernel_rfl
theorem lex_hex_fn {c_0} {s : Store} {Q : List AV → Store → Prop}  : ok (lex_hex c_0) (fun r => Q [.int .i64 r] s) → FN Go.Proofs.Tryz.prog 302 [.int .u8 c_0.toNat] s Q := by
  intro h
  refine FN.of (draw_ok mix) is_lex_hex rfl (Nat.le_of_ble_eq_true rfl) ?_
  revert h
  rw [ir_lex_hex, res_lex_hex, lex_hex]
  repeat' (first
    | with_reducible exact tt_to
    | with_reducible refine and_to ?_ ?_
    | with_reducible exact im_and
    | with_reducible refine im_to ?_
    | simp -implicitDefEqProofs only [go_sem, start, startE, resVs, resV, resC, allV, retK, Nat.reduceBEq, Nat.reduceAdd, Nat.reduceMul, Nat.reduceLeDiff, Nat.reduceEqDiff, Nat.reduceBNe, Nat.ble_eq, UInt8.reduceToNat, UInt32.reduceToNat])
theorem lex_hex_fe {c_0} {s : Store} {r : Int}  (h : lex_hex c_0 = some r) : FE Go.Proofs.Tryz.prog 302 [.int .u8 c_0.toNat] s [.int .i64 r] s := lex_hex_fn  ⟨r, h, rfl, rfl⟩
def lex_scan_hexes (s_0 : lex_scan) : Option (api_Value × Int × lex_scan) :=
  iter (fun ((half1, o2) : Int × lex_scan) =>
    bnd (lex_scan_peek o2) fun r6 =>
    if !r6.2 then
      bnd (lex_scan_open o2) fun r7 =>
      some (.inr ((api_Value.mk 0 0 (Str.mk []) ([] : List api_Value)), r7, o2))
    else
      bnd (lex_hex r6.1) fun r8 =>
      jnS (
        if ((r6.1.toNat : Int) == 62) && (decide (half1 ≥ 0)) then
          bnd (strings_Builder_WriteByte o2.Builder (u8w (w64 (16 * half1)))) fun r15 =>
          bnd (strings_Builder_String r15) fun r16 =>
          some (.inr ((api_Value.mk 4 0 r16.1 ([] : List api_Value)), (0 : Int), (lex_scan.mk r16.2 o2.b_ (w64 (o2.at_ + 1)) o2.last_)))
        else
          if (r6.1.toNat : Int) == 62 then
            bnd (strings_Builder_String o2.Builder) fun r17 =>
            some (.inr ((api_Value.mk 4 0 r17.1 ([] : List api_Value)), (0 : Int), (lex_scan.mk r17.2 o2.b_ (w64 (o2.at_ + 1)) o2.last_)))
          else
            bnd (lex_Space r6.1) fun r18 =>
            if r18 then
              some (.inl (half1, (lex_scan.mk o2.Builder o2.b_ (w64 (o2.at_ + 1)) o2.last_)))
            else
              if decide (r8 < 0) then
                some (.inr ((api_Value.mk 0 0 (Str.mk []) ([] : List api_Value)), (11 : Int), (lex_scan.mk o2.Builder o2.b_ (w64 (o2.at_ + 1)) o2.last_)))
              else
                if decide (half1 < 0) then
                  some (.inl (r8, (lex_scan.mk o2.Builder o2.b_ (w64 (o2.at_ + 1)) o2.last_)))
                else
                  bnd (strings_Builder_WriteByte o2.Builder (u8w (w64 ((w64 (16 * half1)) + r8)))) fun r19 =>
                  some (.inl ((-1), (lex_scan.mk r19 o2.b_ (w64 (o2.at_ + 1)) o2.last_)))) (fun ((half10, o11) : Int × lex_scan) =>
        some (.inl (half10, o11)))
      (fun ((t12, t13, o14) : api_Value × Int × lex_scan) => some (.inr (t12, t13, o14)))) ((-1), s_0)
def ir_lex_scan_hexes : IC :=
 (.seq (.reg none [i1 2 (.allocL [.int .i64 0, .int .i64 0, .str [], .sl true 4 0 []]),
 i1 3 (.mov false (.c (.int .i64 0)))] [0, 2])
 (.scopeJ 0 [(0, false), (2, false), (4, false)] (.reg none [i1 4 (.mov false (.c (.int .i64 (-1))))] [0, 2, 4])
 .skip
 .skip
 (.seq (.reg none [mv 9 0,
 i1 10 (.call 295 [(.t 9)]),
 i1 8 (.movT (.t 10)),
 i1 11 (.extract (.t 8) 0),
 i1 12 (.extract (.t 8) 1),
 mv 5 11,
 mv 6 12] [0, 2, 4, 5, 6])
 (.seq (.seq (.reg none [mv 13 6,
 i1 14 (.un .not (.t 13))] [0, 2, 4, 5, 14])
 (.cond (.t 14) (.seq (.reg none [i1 15 (.build [.int .i64 0, .int .i64 0, .str [], .sl true 4 0 []] []),
 mv 16 0,
 i1 17 (.call 296 [(.t 16)]),
 i0 (.store 4 (.t 2) (.t 15)),
 mv 3 17] [2, 3])
 .ret)
 .skip))
 (.seq (.reg none [mv 18 0,
 i1 19 (.nilCheck (.t 18)),
 i1 20 (.fieldAddr 3 (.t 19)),
 i1 21 (.loadR [.int .i64 0] false (.t 20)),
 i1 22 (.bin .add (.t 21) (.c (.int .i64 1))),
 i1 23 (.nilCheck (.t 18)),
 i1 24 (.fieldAddr 3 (.t 23)),
 i0 (.store 1 (.t 24) (.t 22))] [0, 2, 4, 5])
 (.seq (.reg none [mv 25 5,
 i1 26 (.call 302 [(.t 25)]),
 mv 7 26] [0, 2, 4, 5, 7])
 (.join [(0, false), (2, false), (4, false)] (.block 0 (.seq (.reg none [mv 37 5,
 i1 38 (.bin .eql (.t 37) (.c (.int .u8 62))),
 mv 39 38,
 mvg 40 4 39 true,
 i1g 41 39 true (.bin .geq (.t 40) (.c (.int .i64 0))),
 i1 42 (.pick (.t 39) (.t 41) (.c (.bool false))),
 mv 36 42] [0, 2, 4, 5, 7, 36])
 (.cond (.t 36) (.seq (.reg none [mv 43 0,
 i1 44 (.nilCheck (.t 43)),
 i1 45 (.fieldAddr 0 (.t 44)),
 mv 46 4,
 i1 47 (.bin .mul (.c (.int .i64 16)) (.t 46)),
 i1 48 (.cvtInt .u8 (.t 47)),
 i1 49 (.call 301 [(.t 45), (.t 48)])] [0, 2])
 (.seq (.reg none [mv 50 0,
 i1 51 (.nilCheck (.t 50)),
 i1 52 (.fieldAddr 0 (.t 51)),
 i1 53 (.call 300 [(.t 52)]),
 i1 54 (.build [.int .i64 0, .int .i64 0, .str [], .sl true 4 0 []] [(0, 1, (.c (.int .i64 4))), (2, 1, (.t 53))]),
 i0 (.store 4 (.t 2) (.t 54)),
 i1 3 (.mov false (.c (.int .i64 0)))] [2, 3])
 .ret))
 (.seq (.reg none [mv 56 5,
 i1 57 (.bin .eql (.t 56) (.c (.int .u8 62))),
 mv 55 57] [0, 2, 4, 5, 7, 55])
 (.cond (.t 55) (.seq (.reg none [mv 58 0,
 i1 59 (.nilCheck (.t 58)),
 i1 60 (.fieldAddr 0 (.t 59)),
 i1 61 (.call 300 [(.t 60)]),
 i1 62 (.build [.int .i64 0, .int .i64 0, .str [], .sl true 4 0 []] [(0, 1, (.c (.int .i64 4))), (2, 1, (.t 61))]),
 i0 (.store 4 (.t 2) (.t 62)),
 i1 3 (.mov false (.c (.int .i64 0)))] [2, 3])
 .ret)
 (.seq (.reg none [mv 64 5,
 i1 65 (.call 130 [(.t 64)]),
 mv 63 65] [0, 2, 4, 7, 63])
 (.cond (.t 63) .skip
 (.seq (.reg none [mv 67 7,
 i1 68 (.bin .lss (.t 67) (.c (.int .i64 0))),
 mv 66 68] [0, 2, 4, 7, 66])
 (.cond (.t 66) (.seq (.reg none [i1 69 (.build [.int .i64 0, .int .i64 0, .str [], .sl true 4 0 []] []),
 i0 (.store 4 (.t 2) (.t 69)),
 i1 3 (.mov false (.c (.int .i64 11)))] [2, 3])
 .ret)
 (.seq (.reg none [mv 71 4,
 i1 72 (.bin .lss (.t 71) (.c (.int .i64 0))),
 mv 70 72] [0, 2, 4, 7, 70])
 (.cond (.t 70) (.reg none [mv 73 7,
 mv 4 73] [0, 2, 4])
 (.seq (.reg none [mv 27 0,
 i1 28 (.nilCheck (.t 27)),
 i1 29 (.fieldAddr 0 (.t 28)),
 mv 30 4,
 i1 31 (.bin .mul (.c (.int .i64 16)) (.t 30)),
 mv 32 7,
 i1 33 (.bin .add (.t 31) (.t 32)),
 i1 34 (.cvtInt .u8 (.t 33)),
 i1 35 (.call 301 [(.t 29), (.t 34)])] [0, 2])
 (.reg none [i1 4 (.mov false (.c (.int .i64 (-1))))] [0, 2, 4])))))))))))))
 (.goto 0))))))))
def res_lex_scan_hexes : List IRes := [⟨2, false, some (4, true)⟩, ⟨3, true, none⟩]
theorem is_lex_scan_hexes : fnIs Go.Proofs.Tryz.prog 297 74 res_lex_scan_hexes ir_lex_scan_hexes = true := by kernel_rfl
theorem lex_scan_hexes_fn {s_0} {B0 : Nat} {s : Store} {Q : List AV → Store → Prop} (hB0 : s B0 = some (.cells [s_0.Builder.a, s_0.Builder.b, .sl false 1 s_0.b_.length (flat s_0.b_), .int .i64 s_0.at_, .bool s_0.last_])) : ok (lex_scan_hexes s_0) (fun r => Q [.agg [.int .i64 r.1.Kind, .int .i64 r.1.N, .str r.1.S.b, .sl false 4 r.1.L.length (flat r.1.L)], .int .i64 r.2.1] (s.set B0 (.cells [r.2.2.Builder.a, r.2.2.Builder.b, .sl false 1 r.2.2.b_.length (flat r.2.2.b_), .int .i64 r.2.2.at_, .bool r.2.2.last_]))) → FN Go.Proofs.Tryz.prog 297 [.ref B0 0] s Q := by
  have hS : s = (s.set B0 (.cells [s_0.Builder.a, s_0.Builder.b, .sl false 1 s_0.b_.length (flat s_0.b_), .int .i64 s_0.at_, .bool s_0.last_])) := by simp only [set_eq' hB0]
  rw [hS]
  intro h
  refine FN.of (draw_ok mix) is_lex_scan_hexes rfl (Nat.le_of_ble_eq_true rfl) ?_
  revert h
  rw [ir_lex_scan_hexes, res_lex_scan_hexes, lex_scan_hexes]
  repeat' (first
    | with_reducible exact tt_to
    | with_reducible refine and_to ?_ ?_
    | with_reducible exact im_and
    | with_reducible refine im_to ?_
    | with_reducible refine call_to (fun _ (h : lex_scan_peek o2 = some _) => lex_scan_peek_fe (B0 := B0) (by simp -implicitDefEqProofs only [go_sem, start, startE, resVs, resV, resC, allV, retK, Nat.reduceBEq, Nat.reduceAdd, Nat.reduceMul, Nat.reduceLeDiff, Nat.reduceEqDiff, Nat.reduceBNe, Nat.ble_eq, UInt8.reduceToNat, UInt32.reduceToNat] <;> simp only [encM_nil])   h) (fun r6 => ?_)
    | with_reducible refine call_to_q (fun _ (h : lex_scan_peek o2 = some _) => lex_scan_peek_fe (B0 := B0) (by simp -implicitDefEqProofs only [go_sem, start, startE, resVs, resV, resC, allV, retK, Nat.reduceBEq, Nat.reduceAdd, Nat.reduceMul, Nat.reduceLeDiff, Nat.reduceEqDiff, Nat.reduceBNe, Nat.ble_eq, UInt8.reduceToNat, UInt32.reduceToNat] <;> simp only [encM_nil])   h) (fun _ => rfl) (fun r6 => ?_)
    | with_reducible refine call_to (fun _ (h : lex_scan_open o2 = some _) => lex_scan_open_fe (B0 := B0) (by simp -implicitDefEqProofs only [go_sem, start, startE, resVs, resV, resC, allV, retK, Nat.reduceBEq, Nat.reduceAdd, Nat.reduceMul, Nat.reduceLeDiff, Nat.reduceEqDiff, Nat.reduceBNe, Nat.ble_eq, UInt8.reduceToNat, UInt32.reduceToNat] <;> simp only [encM_nil])   h) (fun r7 => ?_)
    | with_reducible refine call_to_q (fun _ (h : lex_scan_open o2 = some _) => lex_scan_open_fe (B0 := B0) (by simp -implicitDefEqProofs only [go_sem, start, startE, resVs, resV, resC, allV, retK, Nat.reduceBEq, Nat.reduceAdd, Nat.reduceMul, Nat.reduceLeDiff, Nat.reduceEqDiff, Nat.reduceBNe, Nat.ble_eq, UInt8.reduceToNat, UInt32.reduceToNat] <;> simp only [encM_nil])   h) (fun _ => rfl) (fun r7 => ?_)
    | with_reducible refine call_to (fun _ (h : lex_hex r6.1 = some _) => lex_hex_fe h) (fun r8 => ?_)
    | with_reducible refine call_to_q (fun _ (h : lex_hex r6.1 = some _) => lex_hex_fe h) (fun _ => rfl) (fun r8 => ?_)
    | with_reducible refine call_to (fun _ (h : lex_hex r6.1 = some _) => (by refine FE_cast ?_ (lex_hex_fe h); simp -implicitDefEqProofs only [go_sem, start, startE, resVs, resV, resC, allV, retK, Nat.reduceBEq, Nat.reduceAdd, Nat.reduceMul, Nat.reduceLeDiff, Nat.reduceEqDiff, Nat.reduceBNe, Nat.ble_eq, UInt8.reduceToNat, UInt32.reduceToNat])) (fun r8 => ?_)
    | with_reducible refine call_to_q (fun _ (h : lex_hex r6.1 = some _) => (by refine FE_cast ?_ (lex_hex_fe h); simp -implicitDefEqProofs only [go_sem, start, startE, resVs, resV, resC, allV, retK, Nat.reduceBEq, Nat.reduceAdd, Nat.reduceMul, Nat.reduceLeDiff, Nat.reduceEqDiff, Nat.reduceBNe, Nat.ble_eq, UInt8.reduceToNat, UInt32.reduceToNat])) (fun _ => rfl) (fun r8 => ?_)
    | with_reducible refine fun hh => strings_Builder_WriteByte_fn (B0 := B0) (preB0 := []) (postB0 := [.sl false 1 o2.b_.length (flat o2.b_), .int .i64 (w64 (o2.at_ + 1)), .bool o2.last_]) (by simp -implicitDefEqProofs only [go_sem, start, startE, resVs, resV, resC, allV, retK, Nat.reduceBEq, Nat.reduceAdd, Nat.reduceMul, Nat.reduceLeDiff, Nat.reduceEqDiff, Nat.reduceBNe, Nat.ble_eq, UInt8.reduceToNat, UInt32.reduceToNat] <;> simp only [encM_nil]) (by first | rfl | simp)  (ok_mono (show ok (strings_Builder_WriteByte o2.Builder (u8w (w64 (16 * half1)))) _ from hh) fun r15 => ?_)
    | with_reducible refine fun hh => FN_cast (by simp -implicitDefEqProofs only [go_sem, start, startE, resVs, resV, resC, allV, retK, Nat.reduceBEq, Nat.reduceAdd, Nat.reduceMul, Nat.reduceLeDiff, Nat.reduceEqDiff, Nat.reduceBNe, Nat.ble_eq, UInt8.reduceToNat, UInt32.reduceToNat]) (strings_Builder_WriteByte_fn (B0 := B0) (preB0 := []) (postB0 := [.sl false 1 o2.b_.length (flat o2.b_), .int .i64 (w64 (o2.at_ + 1)), .bool o2.last_]) (by simp -implicitDefEqProofs only [go_sem, start, startE, resVs, resV, resC, allV, retK, Nat.reduceBEq, Nat.reduceAdd, Nat.reduceMul, Nat.reduceLeDiff, Nat.reduceEqDiff, Nat.reduceBNe, Nat.ble_eq, UInt8.reduceToNat, UInt32.reduceToNat] <;> simp only [encM_nil]) (by first | rfl | simp)  (ok_mono (show ok (strings_Builder_WriteByte o2.Builder (u8w (w64 (16 * half1)))) _ from hh) fun r15 => ?_))
    | with_reducible refine fun hh => strings_Builder_String_fn (B0 := B0) (preB0 := []) (postB0 := [.sl false 1 o2.b_.length (flat o2.b_), .int .i64 (w64 (o2.at_ + 1)), .bool o2.last_]) (by simp -implicitDefEqProofs only [go_sem, start, startE, resVs, resV, resC, allV, retK, Nat.reduceBEq, Nat.reduceAdd, Nat.reduceMul, Nat.reduceLeDiff, Nat.reduceEqDiff, Nat.reduceBNe, Nat.ble_eq, UInt8.reduceToNat, UInt32.reduceToNat] <;> simp only [encM_nil]) (by first | rfl | simp)  (ok_mono (show ok (strings_Builder_String r15) _ from hh) fun r16 => ?_)
    | with_reducible refine fun hh => FN_cast (by simp -implicitDefEqProofs only [go_sem, start, startE, resVs, resV, resC, allV, retK, Nat.reduceBEq, Nat.reduceAdd, Nat.reduceMul, Nat.reduceLeDiff, Nat.reduceEqDiff, Nat.reduceBNe, Nat.ble_eq, UInt8.reduceToNat, UInt32.reduceToNat]) (strings_Builder_String_fn (B0 := B0) (preB0 := []) (postB0 := [.sl false 1 o2.b_.length (flat o2.b_), .int .i64 (w64 (o2.at_ + 1)), .bool o2.last_]) (by simp -implicitDefEqProofs only [go_sem, start, startE, resVs, resV, resC, allV, retK, Nat.reduceBEq, Nat.reduceAdd, Nat.reduceMul, Nat.reduceLeDiff, Nat.reduceEqDiff, Nat.reduceBNe, Nat.ble_eq, UInt8.reduceToNat, UInt32.reduceToNat] <;> simp only [encM_nil]) (by first | rfl | simp)  (ok_mono (show ok (strings_Builder_String r15) _ from hh) fun r16 => ?_))
    | with_reducible refine fun hh => strings_Builder_String_fn (B0 := B0) (preB0 := []) (postB0 := [.sl false 1 o2.b_.length (flat o2.b_), .int .i64 (w64 (o2.at_ + 1)), .bool o2.last_]) (by simp -implicitDefEqProofs only [go_sem, start, startE, resVs, resV, resC, allV, retK, Nat.reduceBEq, Nat.reduceAdd, Nat.reduceMul, Nat.reduceLeDiff, Nat.reduceEqDiff, Nat.reduceBNe, Nat.ble_eq, UInt8.reduceToNat, UInt32.reduceToNat] <;> simp only [encM_nil]) (by first | rfl | simp)  (ok_mono (show ok (strings_Builder_String o2.Builder) _ from hh) fun r17 => ?_)
    | with_reducible refine fun hh => FN_cast (by simp -implicitDefEqProofs only [go_sem, start, startE, resVs, resV, resC, allV, retK, Nat.reduceBEq, Nat.reduceAdd, Nat.reduceMul, Nat.reduceLeDiff, Nat.reduceEqDiff, Nat.reduceBNe, Nat.ble_eq, UInt8.reduceToNat, UInt32.reduceToNat]) (strings_Builder_String_fn (B0 := B0) (preB0 := []) (postB0 := [.sl false 1 o2.b_.length (flat o2.b_), .int .i64 (w64 (o2.at_ + 1)), .bool o2.last_]) (by simp -implicitDefEqProofs only [go_sem, start, startE, resVs, resV, resC, allV, retK, Nat.reduceBEq, Nat.reduceAdd, Nat.reduceMul, Nat.reduceLeDiff, Nat.reduceEqDiff, Nat.reduceBNe, Nat.ble_eq, UInt8.reduceToNat, UInt32.reduceToNat] <;> simp only [encM_nil]) (by first | rfl | simp)  (ok_mono (show ok (strings_Builder_String o2.Builder) _ from hh) fun r17 => ?_))
    | with_reducible refine call_to (fun _ (h : lex_Space r6.1 = some _) => lex_Space_fe h) (fun r18 => ?_)
    | with_reducible refine call_to_q (fun _ (h : lex_Space r6.1 = some _) => lex_Space_fe h) (fun _ => rfl) (fun r18 => ?_)
    | with_reducible refine call_to (fun _ (h : lex_Space r6.1 = some _) => (by refine FE_cast ?_ (lex_Space_fe h); simp -implicitDefEqProofs only [go_sem, start, startE, resVs, resV, resC, allV, retK, Nat.reduceBEq, Nat.reduceAdd, Nat.reduceMul, Nat.reduceLeDiff, Nat.reduceEqDiff, Nat.reduceBNe, Nat.ble_eq, UInt8.reduceToNat, UInt32.reduceToNat])) (fun r18 => ?_)
    | with_reducible refine call_to_q (fun _ (h : lex_Space r6.1 = some _) => (by refine FE_cast ?_ (lex_Space_fe h); simp -implicitDefEqProofs only [go_sem, start, startE, resVs, resV, resC, allV, retK, Nat.reduceBEq, Nat.reduceAdd, Nat.reduceMul, Nat.reduceLeDiff, Nat.reduceEqDiff, Nat.reduceBNe, Nat.ble_eq, UInt8.reduceToNat, UInt32.reduceToNat])) (fun _ => rfl) (fun r18 => ?_)
    | with_reducible refine fun hh => strings_Builder_WriteByte_fn (B0 := B0) (preB0 := []) (postB0 := [.sl false 1 o2.b_.length (flat o2.b_), .int .i64 (w64 (o2.at_ + 1)), .bool o2.last_]) (by simp -implicitDefEqProofs only [go_sem, start, startE, resVs, resV, resC, allV, retK, Nat.reduceBEq, Nat.reduceAdd, Nat.reduceMul, Nat.reduceLeDiff, Nat.reduceEqDiff, Nat.reduceBNe, Nat.ble_eq, UInt8.reduceToNat, UInt32.reduceToNat] <;> simp only [encM_nil]) (by first | rfl | simp)  (ok_mono (show ok (strings_Builder_WriteByte o2.Builder (u8w (w64 ((w64 (16 * half1)) + r8)))) _ from hh) fun r19 => ?_)
    | with_reducible refine fun hh => FN_cast (by simp -implicitDefEqProofs only [go_sem, start, startE, resVs, resV, resC, allV, retK, Nat.reduceBEq, Nat.reduceAdd, Nat.reduceMul, Nat.reduceLeDiff, Nat.reduceEqDiff, Nat.reduceBNe, Nat.ble_eq, UInt8.reduceToNat, UInt32.reduceToNat]) (strings_Builder_WriteByte_fn (B0 := B0) (preB0 := []) (postB0 := [.sl false 1 o2.b_.length (flat o2.b_), .int .i64 (w64 (o2.at_ + 1)), .bool o2.last_]) (by simp -implicitDefEqProofs only [go_sem, start, startE, resVs, resV, resC, allV, retK, Nat.reduceBEq, Nat.reduceAdd, Nat.reduceMul, Nat.reduceLeDiff, Nat.reduceEqDiff, Nat.reduceBNe, Nat.ble_eq, UInt8.reduceToNat, UInt32.reduceToNat] <;> simp only [encM_nil]) (by first | rfl | simp)  (ok_mono (show ok (strings_Builder_WriteByte o2.Builder (u8w (w64 ((w64 (16 * half1)) + r8)))) _ from hh) fun r19 => ?_))
    | ((with_reducible refine join_toS (fun ((half10, o11) : Int × lex_scan) => ⟨[(0, .ref B0 0), (2, .loc [.int .i64 0, .int .i64 0, .str (Str.mk []).b, .sl true 4 ([] : List api_Value).length (flat ([] : List api_Value))]), (4, .int .i64 half10)], [], (s.set B0 (.cells [o11.Builder.a, o11.Builder.b, .sl false 1 o11.b_.length (flat o11.b_), .int .i64 o11.at_, .bool o11.last_]))⟩) (fun J => ?_) ?_); rotate_left; rintro ⟨half10, o11⟩)
    | ((with_reducible refine jump_to (fun ((half1, o2) : Int × lex_scan) => ⟨[(0, .ref B0 0), (2, .loc [.int .i64 0, .int .i64 0, .str (Str.mk []).b, .sl true 4 ([] : List api_Value).length (flat ([] : List api_Value))]), (4, .int .i64 half1)], [], (s.set B0 (.cells [o2.Builder.a, o2.Builder.b, .sl false 1 o2.b_.length (flat o2.b_), .int .i64 o2.at_, .bool o2.last_]))⟩) ?_ ?_); (first | exact rfl | simp -implicitDefEqProofs only [go_sem, start, startE, resVs, resV, resC, allV, retK, Nat.reduceBEq, Nat.reduceAdd, Nat.reduceMul, Nat.reduceLeDiff, Nat.reduceEqDiff, Nat.reduceBNe, Nat.ble_eq, UInt8.reduceToNat, UInt32.reduceToNat]); rintro J ⟨half1, o2⟩)
    | simp -implicitDefEqProofs only [go_sem, start, startE, resVs, resV, resC, allV, retK, Nat.reduceBEq, Nat.reduceAdd, Nat.reduceMul, Nat.reduceLeDiff, Nat.reduceEqDiff, Nat.reduceBNe, Nat.ble_eq, UInt8.reduceToNat, UInt32.reduceToNat])
def lex_scan_opening (s_0 : lex_scan) : Option (lex_Token × Int × lex_scan) :=
  bnd (lex_scan_peek s_0) fun r1 =>
  if !r1.2 then
    bnd (lex_scan_open s_0) fun r2 =>
    some ((lex_Token.mk 0 0 0 (api_Value.mk 0 0 (Str.mk []) ([] : List api_Value)) (Str.mk [])), r2, s_0)
  else
    if (r1.1.toNat : Int) == 60 then
      some ((lex_Token.mk 4 0 0 (api_Value.mk 0 0 (Str.mk []) ([] : List api_Value)) (Str.mk [])), 0, (lex_scan.mk s_0.Builder s_0.b_ (w64 (s_0.at_ + 1)) s_0.last_))
    else
      bnd (lex_scan_hexes s_0) fun r3 =>
      some ((lex_Token.mk 1 0 0 r3.1 (Str.mk [])), r3.2.1, r3.2.2)
def ir_lex_scan_opening : IC :=
 (.seq (.reg none [i1 2 (.allocL [.int .i64 0, .int .i64 0, .int .i64 0, .int .i64 0, .int .i64 0, .str [], .sl true 4 0 [], .str []]),
 i1 3 (.mov false (.c (.int .i64 0)))] [0, 2])
 (.seq (.reg none [mv 9 0,
 i1 10 (.call 295 [(.t 9)]),
 i1 8 (.movT (.t 10)),
 i1 11 (.extract (.t 8) 0),
 i1 12 (.extract (.t 8) 1),
 mv 4 11,
 mv 5 12] [0, 2, 4, 5])
 (.seq (.seq (.reg none [mv 13 5,
 i1 14 (.un .not (.t 13))] [0, 2, 4, 14])
 (.cond (.t 14) (.seq (.reg none [i1 15 (.build [.int .i64 0, .int .i64 0, .int .i64 0, .int .i64 0, .int .i64 0, .str [], .sl true 4 0 [], .str []] []),
 mv 16 0,
 i1 17 (.call 296 [(.t 16)]),
 i0 (.store 8 (.t 2) (.t 15)),
 mv 3 17] [2, 3])
 .ret)
 .skip))
 (.seq (.seq (.reg none [mv 18 4,
 i1 19 (.bin .eql (.t 18) (.c (.int .u8 60)))] [0, 2, 19])
 (.cond (.t 19) (.seq (.reg none [mv 20 0,
 i1 21 (.nilCheck (.t 20)),
 i1 22 (.fieldAddr 3 (.t 21)),
 i1 23 (.loadR [.int .i64 0] false (.t 22)),
 i1 24 (.bin .add (.t 23) (.c (.int .i64 1))),
 i1 25 (.nilCheck (.t 20)),
 i1 26 (.fieldAddr 3 (.t 25)),
 i0 (.store 1 (.t 26) (.t 24))] [2])
 (.seq (.reg none [i1 27 (.build [.int .i64 0, .int .i64 0, .int .i64 0, .int .i64 0, .int .i64 0, .str [], .sl true 4 0 [], .str []] [(0, 1, (.c (.int .i64 4)))]),
 i0 (.store 8 (.t 2) (.t 27)),
 i1 3 (.mov false (.c (.int .i64 0)))] [2, 3])
 .ret))
 .skip))
 (.seq (.reg none [mv 29 0,
 i1 30 (.call 297 [(.t 29)]),
 i1 28 (.movT (.t 30)),
 i1 31 (.extract (.t 28) 0),
 i1 32 (.extract (.t 28) 1),
 i1 6 (.allocL [.int .i64 0, .int .i64 0, .str [], .sl true 4 0 []]),
 i0 (.store 4 (.t 6) (.t 31)),
 mv 7 32] [2, 6, 7])
 (.seq (.reg none [i1 33 (.load 4 true (.t 6)),
 i1 34 (.build [.int .i64 0, .int .i64 0, .int .i64 0, .int .i64 0, .int .i64 0, .str [], .sl true 4 0 [], .str []] [(0, 1, (.c (.int .i64 1))), (3, 4, (.t 33))]),
 mv 35 7,
 i0 (.store 8 (.t 2) (.t 34)),
 mv 3 35] [2, 3])
 .ret))))))
def res_lex_scan_opening : List IRes := [⟨2, false, some (8, true)⟩, ⟨3, true, none⟩]
theorem is_lex_scan_opening : fnIs Go.Proofs.Tryz.prog 257 36 res_lex_scan_opening ir_lex_scan_opening = true := by kernel_rfl
theorem lex_scan_opening_fn {s_0} {B0 : Nat} {s : Store} {Q : List AV → Store → Prop} (hB0 : s B0 = some (.cells [s_0.Builder.a, s_0.Builder.b, .sl false 1 s_0.b_.length (flat s_0.b_), .int .i64 s_0.at_, .bool s_0.last_])) : ok (lex_scan_opening s_0) (fun r => Q [.agg [.int .i64 r.1.Kind, .int .i64 r.1.From, .int .i64 r.1.To, .int .i64 r.1.V.Kind, .int .i64 r.1.V.N, .str r.1.V.S.b, .sl false 4 r.1.V.L.length (flat r.1.V.L), .str r.1.S.b], .int .i64 r.2.1] (s.set B0 (.cells [r.2.2.Builder.a, r.2.2.Builder.b, .sl false 1 r.2.2.b_.length (flat r.2.2.b_), .int .i64 r.2.2.at_, .bool r.2.2.last_]))) → FN Go.Proofs.Tryz.prog 257 [.ref B0 0] s Q := by
  have hS : s = (s.set B0 (.cells [s_0.Builder.a, s_0.Builder.b, .sl false 1 s_0.b_.length (flat s_0.b_), .int .i64 s_0.at_, .bool s_0.last_])) := by simp only [set_eq' hB0]
  rw [hS]
  intro h
  refine FN.of (draw_ok mix) is_lex_scan_opening rfl (Nat.le_of_ble_eq_true rfl) ?_
  revert h
  rw [ir_lex_scan_opening, res_lex_scan_opening, lex_scan_opening]
  repeat' (first
    | with_reducible exact tt_to
    | with_reducible refine and_to ?_ ?_
    | with_reducible exact im_and
    | with_reducible refine im_to ?_
    | with_reducible refine call_to (fun _ (h : lex_scan_peek s_0 = some _) => lex_scan_peek_fe (B0 := B0) (by simp -implicitDefEqProofs only [go_sem, start, startE, resVs, resV, resC, allV, retK, Nat.reduceBEq, Nat.reduceAdd, Nat.reduceMul, Nat.reduceLeDiff, Nat.reduceEqDiff, Nat.reduceBNe, Nat.ble_eq, UInt8.reduceToNat, UInt32.reduceToNat] <;> simp only [encM_nil])   h) (fun r1 => ?_)
    | with_reducible refine call_to_q (fun _ (h : lex_scan_peek s_0 = some _) => lex_scan_peek_fe (B0 := B0) (by simp -implicitDefEqProofs only [go_sem, start, startE, resVs, resV, resC, allV, retK, Nat.reduceBEq, Nat.reduceAdd, Nat.reduceMul, Nat.reduceLeDiff, Nat.reduceEqDiff, Nat.reduceBNe, Nat.ble_eq, UInt8.reduceToNat, UInt32.reduceToNat] <;> simp only [encM_nil])   h) (fun _ => rfl) (fun r1 => ?_)
    | with_reducible refine call_to (fun _ (h : lex_scan_open s_0 = some _) => lex_scan_open_fe (B0 := B0) (by simp -implicitDefEqProofs only [go_sem, start, startE, resVs, resV, resC, allV, retK, Nat.reduceBEq, Nat.reduceAdd, Nat.reduceMul, Nat.reduceLeDiff, Nat.reduceEqDiff, Nat.reduceBNe, Nat.ble_eq, UInt8.reduceToNat, UInt32.reduceToNat] <;> simp only [encM_nil])   h) (fun r2 => ?_)
    | with_reducible refine call_to_q (fun _ (h : lex_scan_open s_0 = some _) => lex_scan_open_fe (B0 := B0) (by simp -implicitDefEqProofs only [go_sem, start, startE, resVs, resV, resC, allV, retK, Nat.reduceBEq, Nat.reduceAdd, Nat.reduceMul, Nat.reduceLeDiff, Nat.reduceEqDiff, Nat.reduceBNe, Nat.ble_eq, UInt8.reduceToNat, UInt32.reduceToNat] <;> simp only [encM_nil])   h) (fun _ => rfl) (fun r2 => ?_)
    | with_reducible refine fun hh => lex_scan_hexes_fn (B0 := B0) (by simp -implicitDefEqProofs only [go_sem, start, startE, resVs, resV, resC, allV, retK, Nat.reduceBEq, Nat.reduceAdd, Nat.reduceMul, Nat.reduceLeDiff, Nat.reduceEqDiff, Nat.reduceBNe, Nat.ble_eq, UInt8.reduceToNat, UInt32.reduceToNat] <;> simp only [encM_nil])   (ok_mono (show ok (lex_scan_hexes s_0) _ from hh) fun r3 => ?_)
    | with_reducible refine fun hh => FN_cast (by simp -implicitDefEqProofs only [go_sem, start, startE, resVs, resV, resC, allV, retK, Nat.reduceBEq, Nat.reduceAdd, Nat.reduceMul, Nat.reduceLeDiff, Nat.reduceEqDiff, Nat.reduceBNe, Nat.ble_eq, UInt8.reduceToNat, UInt32.reduceToNat]) (lex_scan_hexes_fn (B0 := B0) (by simp -implicitDefEqProofs only [go_sem, start, startE, resVs, resV, resC, allV, retK, Nat.reduceBEq, Nat.reduceAdd, Nat.reduceMul, Nat.reduceLeDiff, Nat.reduceEqDiff, Nat.reduceBNe, Nat.ble_eq, UInt8.reduceToNat, UInt32.reduceToNat] <;> simp only [encM_nil])   (ok_mono (show ok (lex_scan_hexes s_0) _ from hh) fun r3 => ?_))
    | simp -implicitDefEqProofs only [go_sem, start, startE, resVs, resV, resC, allV, retK, Nat.reduceBEq, Nat.reduceAdd, Nat.reduceMul, Nat.reduceLeDiff, Nat.reduceEqDiff, Nat.reduceBNe, Nat.ble_eq, UInt8.reduceToNat, UInt32.reduceToNat])
def lex_scan_closing (s_0 : lex_scan) : Option (lex_Token × Int × lex_scan) :=
  bnd (lex_scan_peek s_0) fun r1 =>
  if (!r1.2) && (!s_0.last_) then
    some ((lex_Token.mk 0 0 0 (api_Value.mk 0 0 (Str.mk []) ([] : List api_Value)) (Str.mk [])), 6, s_0)
  else
    if (!r1.2) || ((r1.1.toNat : Int) != 62) then
      some ((lex_Token.mk 0 0 0 (api_Value.mk 0 0 (Str.mk []) ([] : List api_Value)) (Str.mk [])), 11, s_0)
    else
      some ((lex_Token.mk 5 0 0 (api_Value.mk 0 0 (Str.mk []) ([] : List api_Value)) (Str.mk [])), 0, (lex_scan.mk s_0.Builder s_0.b_ (w64 (s_0.at_ + 1)) s_0.last_))
def ir_lex_scan_closing : IC :=
 (.seq (.reg none [i1 2 (.allocL [.int .i64 0, .int .i64 0, .int .i64 0, .int .i64 0, .int .i64 0, .str [], .sl true 4 0 [], .str []]),
 i1 3 (.mov false (.c (.int .i64 0)))] [0, 2])
 (.seq (.reg none [mv 7 0,
 i1 8 (.call 295 [(.t 7)]),
 i1 6 (.movT (.t 8)),
 i1 9 (.extract (.t 6) 0),
 i1 10 (.extract (.t 6) 1),
 mv 4 9,
 mv 5 10] [0, 2, 4, 5])
 (.seq (.block 0 (.seq (.reg none [mv 12 5,
 i1 13 (.un .not (.t 12)),
 mv 14 13,
 mvg 15 0 14 true,
 i1g 16 14 true (.nilCheck (.t 15)),
 i1g 17 14 true (.fieldAddr 4 (.t 16)),
 i1g 18 14 true (.loadR [.bool false] false (.t 17)),
 i1g 19 14 true (.un .not (.t 18)),
 i1 20 (.pick (.t 14) (.t 19) (.c (.bool false))),
 mv 11 20] [0, 2, 4, 5, 11])
 (.cond (.t 11) (.seq (.reg none [i1 21 (.build [.int .i64 0, .int .i64 0, .int .i64 0, .int .i64 0, .int .i64 0, .str [], .sl true 4 0 [], .str []] []),
 i0 (.store 8 (.t 2) (.t 21)),
 i1 3 (.mov false (.c (.int .i64 6)))] [2, 3])
 .ret)
 (.seq (.reg none [mv 23 5,
 i1 24 (.un .not (.t 23)),
 mv 25 24,
 mvg 26 4 25 false,
 i1g 27 25 false (.bin .neq (.t 26) (.c (.int .u8 62))),
 i1 28 (.pick (.t 25) (.c (.bool true)) (.t 27)),
 mv 22 28] [0, 2, 22])
 (.cond (.t 22) (.seq (.reg none [i1 29 (.build [.int .i64 0, .int .i64 0, .int .i64 0, .int .i64 0, .int .i64 0, .str [], .sl true 4 0 [], .str []] []),
 i0 (.store 8 (.t 2) (.t 29)),
 i1 3 (.mov false (.c (.int .i64 11)))] [2, 3])
 .ret)
 .skip)))))
 (.seq (.reg none [mv 30 0,
 i1 31 (.nilCheck (.t 30)),
 i1 32 (.fieldAddr 3 (.t 31)),
 i1 33 (.loadR [.int .i64 0] false (.t 32)),
 i1 34 (.bin .add (.t 33) (.c (.int .i64 1))),
 i1 35 (.nilCheck (.t 30)),
 i1 36 (.fieldAddr 3 (.t 35)),
 i0 (.store 1 (.t 36) (.t 34))] [2])
 (.seq (.reg none [i1 37 (.build [.int .i64 0, .int .i64 0, .int .i64 0, .int .i64 0, .int .i64 0, .str [], .sl true 4 0 [], .str []] [(0, 1, (.c (.int .i64 5)))]),
 i0 (.store 8 (.t 2) (.t 37)),
 i1 3 (.mov false (.c (.int .i64 0)))] [2, 3])
 .ret)))))
def res_lex_scan_closing : List IRes := [⟨2, false, some (8, true)⟩, ⟨3, true, none⟩]
theorem is_lex_scan_closing : fnIs Go.Proofs.Tryz.prog 258 38 res_lex_scan_closing ir_lex_scan_closing = true := by kernel_rfl
theorem lex_scan_closing_fn {s_0} {B0 : Nat} {s : Store} {Q : List AV → Store → Prop} (hB0 : s B0 = some (.cells [s_0.Builder.a, s_0.Builder.b, .sl false 1 s_0.b_.length (flat s_0.b_), .int .i64 s_0.at_, .bool s_0.last_])) : ok (lex_scan_closing s_0) (fun r => Q [.agg [.int .i64 r.1.Kind, .int .i64 r.1.From, .int .i64 r.1.To, .int .i64 r.1.V.Kind, .int .i64 r.1.V.N, .str r.1.V.S.b, .sl false 4 r.1.V.L.length (flat r.1.V.L), .str r.1.S.b], .int .i64 r.2.1] (s.set B0 (.cells [r.2.2.Builder.a, r.2.2.Builder.b, .sl false 1 r.2.2.b_.length (flat r.2.2.b_), .int .i64 r.2.2.at_, .bool r.2.2.last_]))) → FN Go.Proofs.Tryz.prog 258 [.ref B0 0] s Q := by
  have hS : s = (s.set B0 (.cells [s_0.Builder.a, s_0.Builder.b, .sl false 1 s_0.b_.length (flat s_0.b_), .int .i64 s_0.at_, .bool s_0.last_])) := by simp only [set_eq' hB0]
  rw [hS]
  intro h
  refine FN.of (draw_ok mix) is_lex_scan_closing rfl (Nat.le_of_ble_eq_true rfl) ?_
  revert h
  rw [ir_lex_scan_closing, res_lex_scan_closing, lex_scan_closing]
  repeat' (first
    | with_reducible exact tt_to
    | with_reducible refine and_to ?_ ?_
    | with_reducible exact im_and
    | with_reducible refine im_to ?_
    | with_reducible refine call_to (fun _ (h : lex_scan_peek s_0 = some _) => lex_scan_peek_fe (B0 := B0) (by simp -implicitDefEqProofs only [go_sem, start, startE, resVs, resV, resC, allV, retK, Nat.reduceBEq, Nat.reduceAdd, Nat.reduceMul, Nat.reduceLeDiff, Nat.reduceEqDiff, Nat.reduceBNe, Nat.ble_eq, UInt8.reduceToNat, UInt32.reduceToNat] <;> simp only [encM_nil])   h) (fun r1 => ?_)
    | with_reducible refine call_to_q (fun _ (h : lex_scan_peek s_0 = some _) => lex_scan_peek_fe (B0 := B0) (by simp -implicitDefEqProofs only [go_sem, start, startE, resVs, resV, resC, allV, retK, Nat.reduceBEq, Nat.reduceAdd, Nat.reduceMul, Nat.reduceLeDiff, Nat.reduceEqDiff, Nat.reduceBNe, Nat.ble_eq, UInt8.reduceToNat, UInt32.reduceToNat] <;> simp only [encM_nil])   h) (fun _ => rfl) (fun r1 => ?_)
    | simp -implicitDefEqProofs only [go_sem, start, startE, resVs, resV, resC, allV, retK, Nat.reduceBEq, Nat.reduceAdd, Nat.reduceMul, Nat.reduceLeDiff, Nat.reduceEqDiff, Nat.reduceBNe, Nat.ble_eq, UInt8.reduceToNat, UInt32.reduceToNat])
def lex_scan_line (s_0 : lex_scan) (c_1 : UInt8) : Option (Bool × lex_scan) :=
  if (c_1.toNat : Int) != 13 then
    some (true, s_0)
  else
    bnd (lex_scan_peek s_0) fun r1 =>
    jn (
      if r1.2 && ((r1.1.toNat : Int) == 10) then
        some (lex_scan.mk s_0.Builder s_0.b_ (w64 (s_0.at_ + 1)) s_0.last_)
      else
        some s_0) fun (o3 : lex_scan) =>
    some (r1.2 || o3.last_, o3)
def ir_lex_scan_line : IC :=
 (.seq (.reg none [i1 4 (.mov false (.c (.bool false)))] [0, 1])
 (.seq (.seq (.reg none [mv 7 1,
 i1 8 (.bin .neq (.t 7) (.c (.int .u8 13)))] [0, 8])
 (.cond (.t 8) (.seq (.reg none [i1 4 (.mov false (.c (.bool true)))] [4])
 .ret)
 .skip))
 (.seq (.reg none [mv 10 0,
 i1 11 (.call 295 [(.t 10)]),
 i1 9 (.movT (.t 11)),
 i1 12 (.extract (.t 9) 0),
 i1 13 (.extract (.t 9) 1),
 mv 5 12,
 mv 6 13] [0, 5, 6])
 (.join [(0, false), (6, false)] (.seq (.reg none [mv 14 6,
 mv 15 14,
 mvg 16 5 15 true,
 i1g 17 15 true (.bin .eql (.t 16) (.c (.int .u8 10))),
 i1 18 (.pick (.t 15) (.t 17) (.c (.bool false)))] [0, 6, 18])
 (.cond (.t 18) (.reg none [mv 19 0,
 i1 20 (.nilCheck (.t 19)),
 i1 21 (.fieldAddr 3 (.t 20)),
 i1 22 (.loadR [.int .i64 0] false (.t 21)),
 i1 23 (.bin .add (.t 22) (.c (.int .i64 1))),
 i1 24 (.nilCheck (.t 19)),
 i1 25 (.fieldAddr 3 (.t 24)),
 i0 (.store 1 (.t 25) (.t 23))] [0, 6])
 .skip))
 (.seq (.reg none [mv 26 6,
 mv 27 26,
 mvg 28 0 27 false,
 i1g 29 27 false (.nilCheck (.t 28)),
 i1g 30 27 false (.fieldAddr 4 (.t 29)),
 i1g 31 27 false (.loadR [.bool false] false (.t 30)),
 i1 32 (.pick (.t 27) (.c (.bool true)) (.t 31)),
 mv 4 32] [4])
 .ret)))))
def res_lex_scan_line : List IRes := [⟨4, true, none⟩]
theorem is_lex_scan_line : fnIs Go.Proofs.Tryz.prog 299 33 res_lex_scan_line ir_lex_scan_line = true := by kernel_rfl
theorem lex_scan_line_fn {s_0 c_1} {B0 : Nat} {s : Store} {Q : List AV → Store → Prop} (hB0 : s B0 = some (.cells [s_0.Builder.a, s_0.Builder.b, .sl false 1 s_0.b_.length (flat s_0.b_), .int .i64 s_0.at_, .bool s_0.last_])) : ok (lex_scan_line s_0 c_1) (fun r => Q [.bool r.1] (s.set B0 (.cells [r.2.Builder.a, r.2.Builder.b, .sl false 1 r.2.b_.length (flat r.2.b_), .int .i64 r.2.at_, .bool r.2.last_]))) → FN Go.Proofs.Tryz.prog 299 [.ref B0 0, .int .u8 c_1.toNat] s Q := by
  have hS : s = (s.set B0 (.cells [s_0.Builder.a, s_0.Builder.b, .sl false 1 s_0.b_.length (flat s_0.b_), .int .i64 s_0.at_, .bool s_0.last_])) := by simp only [set_eq' hB0]
  rw [hS]
  intro h
  refine FN.of (draw_ok mix) is_lex_scan_line rfl (Nat.le_of_ble_eq_true rfl) ?_
  revert h
  rw [ir_lex_scan_line, res_lex_scan_line, lex_scan_line]
  repeat' (first
    | with_reducible exact tt_to
    | with_reducible refine and_to ?_ ?_
    | with_reducible exact im_and
    | with_reducible refine im_to ?_
    | with_reducible refine call_to (fun _ (h : lex_scan_peek s_0 = some _) => lex_scan_peek_fe (B0 := B0) (by simp -implicitDefEqProofs only [go_sem, start, startE, resVs, resV, resC, allV, retK, Nat.reduceBEq, Nat.reduceAdd, Nat.reduceMul, Nat.reduceLeDiff, Nat.reduceEqDiff, Nat.reduceBNe, Nat.ble_eq, UInt8.reduceToNat, UInt32.reduceToNat] <;> simp only [encM_nil])   h) (fun r1 => ?_)
    | with_reducible refine call_to_q (fun _ (h : lex_scan_peek s_0 = some _) => lex_scan_peek_fe (B0 := B0) (by simp -implicitDefEqProofs only [go_sem, start, startE, resVs, resV, resC, allV, retK, Nat.reduceBEq, Nat.reduceAdd, Nat.reduceMul, Nat.reduceLeDiff, Nat.reduceEqDiff, Nat.reduceBNe, Nat.ble_eq, UInt8.reduceToNat, UInt32.reduceToNat] <;> simp only [encM_nil])   h) (fun _ => rfl) (fun r1 => ?_)
    | ((with_reducible refine join_to (fun (o3 : lex_scan) => ⟨[(0, .ref B0 0), (6, .bool r1.2)], [], (s.set B0 (.cells [o3.Builder.a, o3.Builder.b, .sl false 1 o3.b_.length (flat o3.b_), .int .i64 o3.at_, .bool o3.last_]))⟩) (fun J => ?_) ?_); rotate_left; rintro o3)
    | simp -implicitDefEqProofs only [go_sem, start, startE, resVs, resV, resC, allV, retK, Nat.reduceBEq, Nat.reduceAdd, Nat.reduceMul, Nat.reduceLeDiff, Nat.reduceEqDiff, Nat.reduceBNe, Nat.ble_eq, UInt8.reduceToNat, UInt32.reduceToNat])
def lex_scan_escape (s_0 : lex_scan) : Option (Bool × lex_scan) :=
  bnd (lex_scan_peek s_0) fun r1 =>
  if !r1.2 then
    some (false, s_0)
  else
    bnd (strings_IndexByte (Str.mk [110, 114, 116, 98, 102]) r1.1) fun r2 =>
    if decide (r2 ≥ 0) then
      need (0 ≤ r2 ∧ r2 < (Str.mk [10, 13, 9, 8, 12]).b.length) <|
      bnd (strings_Builder_WriteByte s_0.Builder (ix (Str.mk [10, 13, 9, 8, 12]).b r2)) fun r3 =>
      some (true, (lex_scan.mk r3 s_0.b_ (w64 (s_0.at_ + 1)) s_0.last_))
    else
      if (decide ((r1.1.toNat : Int) ≥ 48)) && (decide ((r1.1.toNat : Int) ≤ 55)) then
        bnd (lex_scan_octal (lex_scan.mk s_0.Builder s_0.b_ (w64 (s_0.at_ + 1)) s_0.last_) r1.1) fun r4 =>
        some (r4.1, r4.2)
      else
        if ((r1.1.toNat : Int) == 10) || ((r1.1.toNat : Int) == 13) then
          bnd (lex_scan_line (lex_scan.mk s_0.Builder s_0.b_ (w64 (s_0.at_ + 1)) s_0.last_) r1.1) fun r5 =>
          some (r5.1, r5.2)
        else
          bnd (strings_Builder_WriteByte s_0.Builder r1.1) fun r6 =>
          some (true, (lex_scan.mk r6 s_0.b_ (w64 (s_0.at_ + 1)) s_0.last_))
def ir_lex_scan_escape : IC :=
 (.seq (.reg none [i1 2 (.mov false (.c (.bool false)))] [0])
 (.seq (.reg none [mv 7 0,
 i1 8 (.call 295 [(.t 7)]),
 i1 6 (.movT (.t 8)),
 i1 9 (.extract (.t 6) 0),
 i1 10 (.extract (.t 6) 1),
 mv 3 9,
 mv 4 10] [0, 3, 4])
 (.seq (.seq (.reg none [mv 11 4,
 i1 12 (.un .not (.t 11))] [0, 3, 12])
 (.cond (.t 12) (.seq (.reg none [i1 2 (.mov false (.c (.bool false)))] [2])
 .ret)
 .skip))
 (.seq (.reg none [mv 13 0,
 i1 14 (.nilCheck (.t 13)),
 i1 15 (.fieldAddr 3 (.t 14)),
 i1 16 (.loadR [.int .i64 0] false (.t 15)),
 i1 17 (.bin .add (.t 16) (.c (.int .i64 1))),
 i1 18 (.nilCheck (.t 13)),
 i1 19 (.fieldAddr 3 (.t 18)),
 i0 (.store 1 (.t 19) (.t 17))] [0, 3])
 (.seq (.seq (.reg none [mv 20 3,
 i1 21 (.call 181 [(.c (.str [110, 114, 116, 98, 102])), (.t 20)]),
 mv 5 21] [0, 3, 5])
 (.seq (.reg none [mv 22 5,
 i1 23 (.bin .geq (.t 22) (.c (.int .i64 0)))] [0, 3, 5, 23])
 (.cond (.t 23) (.seq (.regB [] [(0, 0, mv 24 0),
 (0, 1, i1 25 (.nilCheck (.t 24))),
 (0, 2, i1 26 (.fieldAddr 0 (.t 25))),
 (0, 3, mv 27 5),
 (0, 4, i1 28 (.sindex (.c (.str [10, 13, 9, 8, 12])) (.t 27))),
 (2, 5, i1 29 (.call 301 [(.t 26), (.t 28)]))] [])
 (.seq (.reg none [i1 2 (.mov false (.c (.bool true)))] [2])
 .ret))
 .skip)))
 (.seq (.block 0 (.seq (.reg none [mv 31 3,
 i1 32 (.bin .geq (.t 31) (.c (.int .u8 48))),
 mv 33 32,
 mvg 34 3 33 true,
 i1g 35 33 true (.bin .leq (.t 34) (.c (.int .u8 55))),
 i1 36 (.pick (.t 33) (.t 35) (.c (.bool false))),
 mv 30 36] [0, 3, 30])
 (.cond (.t 30) (.seq (.reg none [mv 37 0,
 mv 38 3,
 i1 39 (.call 332 [(.t 37), (.t 38)]),
 mv 2 39] [2])
 .ret)
 (.seq (.reg none [mv 41 3,
 i1 42 (.bin .eql (.t 41) (.c (.int .u8 10))),
 mv 43 42,
 mvg 44 3 43 false,
 i1g 45 43 false (.bin .eql (.t 44) (.c (.int .u8 13))),
 i1 46 (.pick (.t 43) (.c (.bool true)) (.t 45)),
 mv 40 46] [0, 3, 40])
 (.cond (.t 40) (.seq (.reg none [mv 47 0,
 mv 48 3,
 i1 49 (.call 299 [(.t 47), (.t 48)]),
 mv 2 49] [2])
 .ret)
 .skip)))))
 (.seq (.reg none [mv 50 0,
 i1 51 (.nilCheck (.t 50)),
 i1 52 (.fieldAddr 0 (.t 51)),
 mv 53 3,
 i1 54 (.call 301 [(.t 52), (.t 53)])] [])
 (.seq (.reg none [i1 2 (.mov false (.c (.bool true)))] [2])
 .ret))))))))
def res_lex_scan_escape : List IRes := [⟨2, true, none⟩]
theorem is_lex_scan_escape : fnIs Go.Proofs.Tryz.prog 298 55 res_lex_scan_escape ir_lex_scan_escape = true := by kernel_rfl
theorem lex_scan_escape_fn {s_0} {B0 : Nat} {s : Store} {Q : List AV → Store → Prop} (hB0 : s B0 = some (.cells [s_0.Builder.a, s_0.Builder.b, .sl false 1 s_0.b_.length (flat s_0.b_), .int .i64 s_0.at_, .bool s_0.last_])) : ok (lex_scan_escape s_0) (fun r => Q [.bool r.1] (s.set B0 (.cells [r.2.Builder.a, r.2.Builder.b, .sl false 1 r.2.b_.length (flat r.2.b_), .int .i64 r.2.at_, .bool r.2.last_]))) → FN Go.Proofs.Tryz.prog 298 [.ref B0 0] s Q := by
  have hS : s = (s.set B0 (.cells [s_0.Builder.a, s_0.Builder.b, .sl false 1 s_0.b_.length (flat s_0.b_), .int .i64 s_0.at_, .bool s_0.last_])) := by simp only [set_eq' hB0]
  rw [hS]
  intro h
  refine FN.of (draw_ok mix) is_lex_scan_escape rfl (Nat.le_of_ble_eq_true rfl) ?_
  revert h
  rw [ir_lex_scan_escape, res_lex_scan_escape, lex_scan_escape]
  repeat' (first
    | with_reducible exact tt_to
    | ((with_reducible refine b_to ?_ ?_); exact rfl)
    | ((with_reducible refine n_to ?_ ?_); exact rfl)
    | with_reducible refine and_to ?_ ?_
    | with_reducible exact im_and
    | with_reducible refine im_to ?_
    | with_reducible refine call_to (fun _ (h : lex_scan_peek s_0 = some _) => lex_scan_peek_fe (B0 := B0) (by simp -implicitDefEqProofs only [go_sem, start, startE, resVs, resV, resC, allV, retK, Nat.reduceBEq, Nat.reduceAdd, Nat.reduceMul, Nat.reduceLeDiff, Nat.reduceEqDiff, Nat.reduceBNe, Nat.ble_eq, UInt8.reduceToNat, UInt32.reduceToNat] <;> simp only [encM_nil])   h) (fun r1 => ?_)
    | with_reducible refine call_to_q (fun _ (h : lex_scan_peek s_0 = some _) => lex_scan_peek_fe (B0 := B0) (by simp -implicitDefEqProofs only [go_sem, start, startE, resVs, resV, resC, allV, retK, Nat.reduceBEq, Nat.reduceAdd, Nat.reduceMul, Nat.reduceLeDiff, Nat.reduceEqDiff, Nat.reduceBNe, Nat.ble_eq, UInt8.reduceToNat, UInt32.reduceToNat] <;> simp only [encM_nil])   h) (fun _ => rfl) (fun r1 => ?_)
    | with_reducible refine call_to (fun _ (h : strings_IndexByte (Str.mk [110, 114, 116, 98, 102]) r1.1 = some _) => strings_IndexByte_fe h) (fun r2 => ?_)
    | with_reducible refine call_to_q (fun _ (h : strings_IndexByte (Str.mk [110, 114, 116, 98, 102]) r1.1 = some _) => strings_IndexByte_fe h) (fun _ => rfl) (fun r2 => ?_)
    | with_reducible refine call_to (fun _ (h : strings_IndexByte (Str.mk [110, 114, 116, 98, 102]) r1.1 = some _) => (by refine FE_cast ?_ (strings_IndexByte_fe h); simp -implicitDefEqProofs only [go_sem, start, startE, resVs, resV, resC, allV, retK, Nat.reduceBEq, Nat.reduceAdd, Nat.reduceMul, Nat.reduceLeDiff, Nat.reduceEqDiff, Nat.reduceBNe, Nat.ble_eq, UInt8.reduceToNat, UInt32.reduceToNat])) (fun r2 => ?_)
    | with_reducible refine call_to_q (fun _ (h : strings_IndexByte (Str.mk [110, 114, 116, 98, 102]) r1.1 = some _) => (by refine FE_cast ?_ (strings_IndexByte_fe h); simp -implicitDefEqProofs only [go_sem, start, startE, resVs, resV, resC, allV, retK, Nat.reduceBEq, Nat.reduceAdd, Nat.reduceMul, Nat.reduceLeDiff, Nat.reduceEqDiff, Nat.reduceBNe, Nat.ble_eq, UInt8.reduceToNat, UInt32.reduceToNat])) (fun _ => rfl) (fun r2 => ?_)
    | with_reducible refine fun hh => strings_Builder_WriteByte_fn (B0 := B0) (preB0 := []) (postB0 := [.sl false 1 s_0.b_.length (flat s_0.b_), .int .i64 (w64 (s_0.at_ + 1)), .bool s_0.last_]) (by simp -implicitDefEqProofs only [go_sem, start, startE, resVs, resV, resC, allV, retK, Nat.reduceBEq, Nat.reduceAdd, Nat.reduceMul, Nat.reduceLeDiff, Nat.reduceEqDiff, Nat.reduceBNe, Nat.ble_eq, UInt8.reduceToNat, UInt32.reduceToNat] <;> simp only [encM_nil]) (by first | rfl | simp)  (ok_mono (show ok (strings_Builder_WriteByte s_0.Builder (ix (Str.mk [10, 13, 9, 8, 12]).b r2)) _ from hh) fun r3 => ?_)
    | with_reducible refine fun hh => FN_cast (by simp -implicitDefEqProofs only [go_sem, start, startE, resVs, resV, resC, allV, retK, Nat.reduceBEq, Nat.reduceAdd, Nat.reduceMul, Nat.reduceLeDiff, Nat.reduceEqDiff, Nat.reduceBNe, Nat.ble_eq, UInt8.reduceToNat, UInt32.reduceToNat]) (strings_Builder_WriteByte_fn (B0 := B0) (preB0 := []) (postB0 := [.sl false 1 s_0.b_.length (flat s_0.b_), .int .i64 (w64 (s_0.at_ + 1)), .bool s_0.last_]) (by simp -implicitDefEqProofs only [go_sem, start, startE, resVs, resV, resC, allV, retK, Nat.reduceBEq, Nat.reduceAdd, Nat.reduceMul, Nat.reduceLeDiff, Nat.reduceEqDiff, Nat.reduceBNe, Nat.ble_eq, UInt8.reduceToNat, UInt32.reduceToNat] <;> simp only [encM_nil]) (by first | rfl | simp)  (ok_mono (show ok (strings_Builder_WriteByte s_0.Builder (ix (Str.mk [10, 13, 9, 8, 12]).b r2)) _ from hh) fun r3 => ?_))
    | with_reducible refine fun hh => lex_scan_octal_fn (B0 := B0) (by simp -implicitDefEqProofs only [go_sem, start, startE, resVs, resV, resC, allV, retK, Nat.reduceBEq, Nat.reduceAdd, Nat.reduceMul, Nat.reduceLeDiff, Nat.reduceEqDiff, Nat.reduceBNe, Nat.ble_eq, UInt8.reduceToNat, UInt32.reduceToNat] <;> simp only [encM_nil])   (ok_mono (show ok (lex_scan_octal (lex_scan.mk s_0.Builder s_0.b_ (w64 (s_0.at_ + 1)) s_0.last_) r1.1) _ from hh) fun r4 => ?_)
    | with_reducible refine fun hh => FN_cast (by simp -implicitDefEqProofs only [go_sem, start, startE, resVs, resV, resC, allV, retK, Nat.reduceBEq, Nat.reduceAdd, Nat.reduceMul, Nat.reduceLeDiff, Nat.reduceEqDiff, Nat.reduceBNe, Nat.ble_eq, UInt8.reduceToNat, UInt32.reduceToNat]) (lex_scan_octal_fn (B0 := B0) (by simp -implicitDefEqProofs only [go_sem, start, startE, resVs, resV, resC, allV, retK, Nat.reduceBEq, Nat.reduceAdd, Nat.reduceMul, Nat.reduceLeDiff, Nat.reduceEqDiff, Nat.reduceBNe, Nat.ble_eq, UInt8.reduceToNat, UInt32.reduceToNat] <;> simp only [encM_nil])   (ok_mono (show ok (lex_scan_octal (lex_scan.mk s_0.Builder s_0.b_ (w64 (s_0.at_ + 1)) s_0.last_) r1.1) _ from hh) fun r4 => ?_))
    | with_reducible refine fun hh => lex_scan_line_fn (B0 := B0) (by simp -implicitDefEqProofs only [go_sem, start, startE, resVs, resV, resC, allV, retK, Nat.reduceBEq, Nat.reduceAdd, Nat.reduceMul, Nat.reduceLeDiff, Nat.reduceEqDiff, Nat.reduceBNe, Nat.ble_eq, UInt8.reduceToNat, UInt32.reduceToNat] <;> simp only [encM_nil])   (ok_mono (show ok (lex_scan_line (lex_scan.mk s_0.Builder s_0.b_ (w64 (s_0.at_ + 1)) s_0.last_) r1.1) _ from hh) fun r5 => ?_)
    | with_reducible refine fun hh => FN_cast (by simp -implicitDefEqProofs only [go_sem, start, startE, resVs, resV, resC, allV, retK, Nat.reduceBEq, Nat.reduceAdd, Nat.reduceMul, Nat.reduceLeDiff, Nat.reduceEqDiff, Nat.reduceBNe, Nat.ble_eq, UInt8.reduceToNat, UInt32.reduceToNat]) (lex_scan_line_fn (B0 := B0) (by simp -implicitDefEqProofs only [go_sem, start, startE, resVs, resV, resC, allV, retK, Nat.reduceBEq, Nat.reduceAdd, Nat.reduceMul, Nat.reduceLeDiff, Nat.reduceEqDiff, Nat.reduceBNe, Nat.ble_eq, UInt8.reduceToNat, UInt32.reduceToNat] <;> simp only [encM_nil])   (ok_mono (show ok (lex_scan_line (lex_scan.mk s_0.Builder s_0.b_ (w64 (s_0.at_ + 1)) s_0.last_) r1.1) _ from hh) fun r5 => ?_))
    | with_reducible refine fun hh => strings_Builder_WriteByte_fn (B0 := B0) (preB0 := []) (postB0 := [.sl false 1 s_0.b_.length (flat s_0.b_), .int .i64 (w64 (s_0.at_ + 1)), .bool s_0.last_]) (by simp -implicitDefEqProofs only [go_sem, start, startE, resVs, resV, resC, allV, retK, Nat.reduceBEq, Nat.reduceAdd, Nat.reduceMul, Nat.reduceLeDiff, Nat.reduceEqDiff, Nat.reduceBNe, Nat.ble_eq, UInt8.reduceToNat, UInt32.reduceToNat] <;> simp only [encM_nil]) (by first | rfl | simp)  (ok_mono (show ok (strings_Builder_WriteByte s_0.Builder r1.1) _ from hh) fun r6 => ?_)
    | with_reducible refine fun hh => FN_cast (by simp -implicitDefEqProofs only [go_sem, start, startE, resVs, resV, resC, allV, retK, Nat.reduceBEq, Nat.reduceAdd, Nat.reduceMul, Nat.reduceLeDiff, Nat.reduceEqDiff, Nat.reduceBNe, Nat.ble_eq, UInt8.reduceToNat, UInt32.reduceToNat]) (strings_Builder_WriteByte_fn (B0 := B0) (preB0 := []) (postB0 := [.sl false 1 s_0.b_.length (flat s_0.b_), .int .i64 (w64 (s_0.at_ + 1)), .bool s_0.last_]) (by simp -implicitDefEqProofs only [go_sem, start, startE, resVs, resV, resC, allV, retK, Nat.reduceBEq, Nat.reduceAdd, Nat.reduceMul, Nat.reduceLeDiff, Nat.reduceEqDiff, Nat.reduceBNe, Nat.ble_eq, UInt8.reduceToNat, UInt32.reduceToNat] <;> simp only [encM_nil]) (by first | rfl | simp)  (ok_mono (show ok (strings_Builder_WriteByte s_0.Builder r1.1) _ from hh) fun r6 => ?_))
    | simp -implicitDefEqProofs only [go_sem, start, startE, resVs, resV, resC, allV, retK, Nat.reduceBEq, Nat.reduceAdd, Nat.reduceMul, Nat.reduceLeDiff, Nat.reduceEqDiff, Nat.reduceBNe, Nat.ble_eq, UInt8.reduceToNat, UInt32.reduceToNat])
def lex_scan_text (s_0 : lex_scan) : Option (api_Value × Int × lex_scan) :=
  iter (fun ((deep1, o2) : Int × lex_scan) =>
    bnd (lex_scan_peek o2) fun r6 =>
    if !r6.2 then
      bnd (lex_scan_open o2) fun r7 =>
      some (.inr ((api_Value.mk 0 0 (Str.mk []) ([] : List api_Value)), r7, o2))
    else
      jnS (
        if (r6.1.toNat : Int) == 92 then
          bnd (lex_scan_escape (lex_scan.mk o2.Builder o2.b_ (w64 (o2.at_ + 1)) o2.last_)) fun r18 =>
          if !r18.1 then
            bnd (lex_scan_open r18.2) fun r19 =>
            some (.inr (.inr (r19, r18.2)))
          else
            some (.inr (.inl r18.2))
        else
          if (r6.1.toNat : Int) == 13 then
            bnd (lex_scan_line (lex_scan.mk o2.Builder o2.b_ (w64 (o2.at_ + 1)) o2.last_) r6.1) fun r20 =>
            if !r20.1 then
              bnd (lex_scan_open r20.2) fun r21 =>
              some (.inr (.inr (r21, r20.2)))
            else
              some (.inl (deep1, 10, r20.2))
          else
            if (r6.1.toNat : Int) == 40 then
              some (.inl (w64 (deep1 + 1), r6.1, (lex_scan.mk o2.Builder o2.b_ (w64 (o2.at_ + 1)) o2.last_)))
            else
              if (r6.1.toNat : Int) == 41 then
                some (.inl (w64 (deep1 - 1), r6.1, (lex_scan.mk o2.Builder o2.b_ (w64 (o2.at_ + 1)) o2.last_)))
              else
                some (.inl (deep1, r6.1, (lex_scan.mk o2.Builder o2.b_ (w64 (o2.at_ + 1)) o2.last_)))) (fun ((deep9, c10, o11) : Int × UInt8 × lex_scan) =>
        if deep9 == 0 then
          bnd (strings_Builder_String o11.Builder) fun r22 =>
          some (.inr ((api_Value.mk 4 0 r22.1 ([] : List api_Value)), (0 : Int), (lex_scan.mk r22.2 o11.b_ o11.at_ o11.last_)))
        else
          bnd (strings_Builder_WriteByte o11.Builder c10) fun r23 =>
          some (.inl (deep9, (lex_scan.mk r23 o11.b_ o11.at_ o11.last_))))
      (caseS (fun (o14 : lex_scan) => some (.inl (deep1, o14))) (fun ((t16, o17) : Int × lex_scan) => some (.inr ((api_Value.mk 0 0 (Str.mk []) ([] : List api_Value)), t16, o17))))) (1, s_0)
def ir_lex_scan_text : IC :=
 (.seq (.reg none [i1 2 (.allocL [.int .i64 0, .int .i64 0, .str [], .sl true 4 0 []]),
 i1 3 (.mov false (.c (.int .i64 0)))] [0, 2])
 (.scopeJ 0 [(0, false), (2, false), (4, false)] (.reg none [i1 4 (.mov false (.c (.int .i64 1)))] [0, 2, 4])
 .skip
 .skip
 (.seq (.reg none [mv 8 0,
 i1 9 (.call 295 [(.t 8)]),
 i1 7 (.movT (.t 9)),
 i1 10 (.extract (.t 7) 0),
 i1 11 (.extract (.t 7) 1),
 mv 5 10,
 mv 6 11] [0, 2, 4, 5, 6])
 (.seq (.seq (.reg none [mv 12 6,
 i1 13 (.un .not (.t 12))] [0, 2, 4, 5, 13])
 (.cond (.t 13) (.seq (.reg none [i1 14 (.build [.int .i64 0, .int .i64 0, .str [], .sl true 4 0 []] []),
 mv 15 0,
 i1 16 (.call 296 [(.t 15)]),
 i0 (.store 4 (.t 2) (.t 14)),
 mv 3 16] [2, 3])
 .ret)
 .skip))
 (.seq (.reg none [mv 17 0,
 i1 18 (.nilCheck (.t 17)),
 i1 19 (.fieldAddr 3 (.t 18)),
 i1 20 (.loadR [.int .i64 0] false (.t 19)),
 i1 21 (.bin .add (.t 20) (.c (.int .i64 1))),
 i1 22 (.nilCheck (.t 17)),
 i1 23 (.fieldAddr 3 (.t 22)),
 i0 (.store 1 (.t 23) (.t 21))] [0, 2, 4, 5])
 (.join [(0, false), (2, false), (4, false), (5, false)] (.seq (.reg none [mv 24 5] [0, 2, 4, 5, 24])
 (.block 0 (.seq (.reg none [i1 26 (.bin .eql (.t 24) (.c (.int .u8 92))),
 mv 25 26] [0, 2, 4, 5, 24, 25])
 (.cond (.t 25) (.seq (.seq (.reg none [mv 27 0,
 i1 28 (.call 298 [(.t 27)]),
 i1 29 (.un .not (.t 28))] [0, 2, 4, 29])
 (.cond (.t 29) (.seq (.reg none [i1 30 (.build [.int .i64 0, .int .i64 0, .str [], .sl true 4 0 []] []),
 mv 31 0,
 i1 32 (.call 296 [(.t 31)]),
 i0 (.store 4 (.t 2) (.t 30)),
 mv 3 32] [2, 3])
 .ret)
 .skip))
 (.goto 0))
 (.seq (.reg none [i1 34 (.bin .eql (.t 24) (.c (.int .u8 13))),
 mv 33 34] [0, 2, 4, 5, 24, 33])
 (.cond (.t 33) (.seq (.seq (.reg none [mv 35 0,
 mv 36 5,
 i1 37 (.call 299 [(.t 35), (.t 36)]),
 i1 38 (.un .not (.t 37))] [0, 2, 4, 38])
 (.cond (.t 38) (.seq (.reg none [i1 39 (.build [.int .i64 0, .int .i64 0, .str [], .sl true 4 0 []] []),
 mv 40 0,
 i1 41 (.call 296 [(.t 40)]),
 i0 (.store 4 (.t 2) (.t 39)),
 mv 3 41] [2, 3])
 .ret)
 .skip))
 (.reg none [i1 5 (.mov false (.c (.int .u8 10)))] [0, 2, 4, 5]))
 (.seq (.reg none [i1 43 (.bin .eql (.t 24) (.c (.int .u8 40))),
 mv 42 43] [0, 2, 4, 5, 24, 42])
 (.cond (.t 42) (.reg none [mv 44 4,
 i1 45 (.bin .add (.t 44) (.c (.int .i64 1))),
 mv 4 45] [0, 2, 4, 5])
 (.seq (.reg none [i1 47 (.bin .eql (.t 24) (.c (.int .u8 41))),
 mv 46 47] [0, 2, 4, 5, 46])
 (.cond (.t 46) (.reg none [mv 48 4,
 i1 49 (.bin .sub (.t 48) (.c (.int .i64 1))),
 mv 4 49] [0, 2, 4, 5])
 .skip))))))))))
 (.seq (.seq (.reg none [mv 50 4,
 i1 51 (.bin .eql (.t 50) (.c (.int .i64 0)))] [0, 2, 4, 5, 51])
 (.cond (.t 51) (.seq (.reg none [mv 52 0,
 i1 53 (.nilCheck (.t 52)),
 i1 54 (.fieldAddr 0 (.t 53)),
 i1 55 (.call 300 [(.t 54)]),
 i1 56 (.build [.int .i64 0, .int .i64 0, .str [], .sl true 4 0 []] [(0, 1, (.c (.int .i64 4))), (2, 1, (.t 55))]),
 i0 (.store 4 (.t 2) (.t 56)),
 i1 3 (.mov false (.c (.int .i64 0)))] [2, 3])
 .ret)
 .skip))
 (.seq (.reg none [mv 57 0,
 i1 58 (.nilCheck (.t 57)),
 i1 59 (.fieldAddr 0 (.t 58)),
 mv 60 5,
 i1 61 (.call 301 [(.t 59), (.t 60)])] [0, 2, 4])
 (.goto 0)))))))))
def res_lex_scan_text : List IRes := [⟨2, false, some (4, true)⟩, ⟨3, true, none⟩]
theorem is_lex_scan_text : fnIs Go.Proofs.Tryz.prog 259 62 res_lex_scan_text ir_lex_scan_text = true := by kernel_rfl
theorem lex_scan_text_fn {s_0} {B0 : Nat} {s : Store} {Q : List AV → Store → Prop} (hB0 : s B0 = some (.cells [s_0.Builder.a, s_0.Builder.b, .sl false 1 s_0.b_.length (flat s_0.b_), .int .i64 s_0.at_, .bool s_0.last_])) : ok (lex_scan_text s_0) (fun r => Q [.agg [.int .i64 r.1.Kind, .int .i64 r.1.N, .str r.1.S.b, .sl false 4 r.1.L.length (flat r.1.L)], .int .i64 r.2.1] (s.set B0 (.cells [r.2.2.Builder.a, r.2.2.Builder.b, .sl false 1 r.2.2.b_.length (flat r.2.2.b_), .int .i64 r.2.2.at_, .bool r.2.2.last_]))) → FN Go.Proofs.Tryz.prog 259 [.ref B0 0] s Q := by
  have hS : s = (s.set B0 (.cells [s_0.Builder.a, s_0.Builder.b, .sl false 1 s_0.b_.length (flat s_0.b_), .int .i64 s_0.at_, .bool s_0.last_])) := by simp only [set_eq' hB0]
  rw [hS]
  intro h
  refine FN.of (draw_ok mix) is_lex_scan_text rfl (Nat.le_of_ble_eq_true rfl) ?_
  revert h
  rw [ir_lex_scan_text, res_lex_scan_text, lex_scan_text]
  repeat' (first
    | with_reducible exact tt_to
    | with_reducible refine and_to ?_ ?_
    | with_reducible exact im_and
    | with_reducible refine im_to ?_
    | with_reducible refine call_to (fun _ (h : lex_scan_peek o2 = some _) => lex_scan_peek_fe (B0 := B0) (by simp -implicitDefEqProofs only [go_sem, start, startE, resVs, resV, resC, allV, retK, Nat.reduceBEq, Nat.reduceAdd, Nat.reduceMul, Nat.reduceLeDiff, Nat.reduceEqDiff, Nat.reduceBNe, Nat.ble_eq, UInt8.reduceToNat, UInt32.reduceToNat] <;> simp only [encM_nil])   h) (fun r6 => ?_)
    | with_reducible refine call_to_q (fun _ (h : lex_scan_peek o2 = some _) => lex_scan_peek_fe (B0 := B0) (by simp -implicitDefEqProofs only [go_sem, start, startE, resVs, resV, resC, allV, retK, Nat.reduceBEq, Nat.reduceAdd, Nat.reduceMul, Nat.reduceLeDiff, Nat.reduceEqDiff, Nat.reduceBNe, Nat.ble_eq, UInt8.reduceToNat, UInt32.reduceToNat] <;> simp only [encM_nil])   h) (fun _ => rfl) (fun r6 => ?_)
    | with_reducible refine call_to (fun _ (h : lex_scan_open o2 = some _) => lex_scan_open_fe (B0 := B0) (by simp -implicitDefEqProofs only [go_sem, start, startE, resVs, resV, resC, allV, retK, Nat.reduceBEq, Nat.reduceAdd, Nat.reduceMul, Nat.reduceLeDiff, Nat.reduceEqDiff, Nat.reduceBNe, Nat.ble_eq, UInt8.reduceToNat, UInt32.reduceToNat] <;> simp only [encM_nil])   h) (fun r7 => ?_)
    | with_reducible refine call_to_q (fun _ (h : lex_scan_open o2 = some _) => lex_scan_open_fe (B0 := B0) (by simp -implicitDefEqProofs only [go_sem, start, startE, resVs, resV, resC, allV, retK, Nat.reduceBEq, Nat.reduceAdd, Nat.reduceMul, Nat.reduceLeDiff, Nat.reduceEqDiff, Nat.reduceBNe, Nat.ble_eq, UInt8.reduceToNat, UInt32.reduceToNat] <;> simp only [encM_nil])   h) (fun _ => rfl) (fun r7 => ?_)
    | with_reducible refine fun hh => lex_scan_escape_fn (B0 := B0) (by simp -implicitDefEqProofs only [go_sem, start, startE, resVs, resV, resC, allV, retK, Nat.reduceBEq, Nat.reduceAdd, Nat.reduceMul, Nat.reduceLeDiff, Nat.reduceEqDiff, Nat.reduceBNe, Nat.ble_eq, UInt8.reduceToNat, UInt32.reduceToNat] <;> simp only [encM_nil])   (ok_mono (show ok (lex_scan_escape (lex_scan.mk o2.Builder o2.b_ (w64 (o2.at_ + 1)) o2.last_)) _ from hh) fun r18 => ?_)
    | with_reducible refine fun hh => FN_cast (by simp -implicitDefEqProofs only [go_sem, start, startE, resVs, resV, resC, allV, retK, Nat.reduceBEq, Nat.reduceAdd, Nat.reduceMul, Nat.reduceLeDiff, Nat.reduceEqDiff, Nat.reduceBNe, Nat.ble_eq, UInt8.reduceToNat, UInt32.reduceToNat]) (lex_scan_escape_fn (B0 := B0) (by simp -implicitDefEqProofs only [go_sem, start, startE, resVs, resV, resC, allV, retK, Nat.reduceBEq, Nat.reduceAdd, Nat.reduceMul, Nat.reduceLeDiff, Nat.reduceEqDiff, Nat.reduceBNe, Nat.ble_eq, UInt8.reduceToNat, UInt32.reduceToNat] <;> simp only [encM_nil])   (ok_mono (show ok (lex_scan_escape (lex_scan.mk o2.Builder o2.b_ (w64 (o2.at_ + 1)) o2.last_)) _ from hh) fun r18 => ?_))
    | with_reducible refine call_to (fun _ (h : lex_scan_open r18.2 = some _) => lex_scan_open_fe (B0 := B0) (by simp -implicitDefEqProofs only [go_sem, start, startE, resVs, resV, resC, allV, retK, Nat.reduceBEq, Nat.reduceAdd, Nat.reduceMul, Nat.reduceLeDiff, Nat.reduceEqDiff, Nat.reduceBNe, Nat.ble_eq, UInt8.reduceToNat, UInt32.reduceToNat] <;> simp only [encM_nil])   h) (fun r19 => ?_)
    | with_reducible refine call_to_q (fun _ (h : lex_scan_open r18.2 = some _) => lex_scan_open_fe (B0 := B0) (by simp -implicitDefEqProofs only [go_sem, start, startE, resVs, resV, resC, allV, retK, Nat.reduceBEq, Nat.reduceAdd, Nat.reduceMul, Nat.reduceLeDiff, Nat.reduceEqDiff, Nat.reduceBNe, Nat.ble_eq, UInt8.reduceToNat, UInt32.reduceToNat] <;> simp only [encM_nil])   h) (fun _ => rfl) (fun r19 => ?_)
    | with_reducible refine fun hh => lex_scan_line_fn (B0 := B0) (by simp -implicitDefEqProofs only [go_sem, start, startE, resVs, resV, resC, allV, retK, Nat.reduceBEq, Nat.reduceAdd, Nat.reduceMul, Nat.reduceLeDiff, Nat.reduceEqDiff, Nat.reduceBNe, Nat.ble_eq, UInt8.reduceToNat, UInt32.reduceToNat] <;> simp only [encM_nil])   (ok_mono (show ok (lex_scan_line (lex_scan.mk o2.Builder o2.b_ (w64 (o2.at_ + 1)) o2.last_) r6.1) _ from hh) fun r20 => ?_)
    | with_reducible refine fun hh => FN_cast (by simp -implicitDefEqProofs only [go_sem, start, startE, resVs, resV, resC, allV, retK, Nat.reduceBEq, Nat.reduceAdd, Nat.reduceMul, Nat.reduceLeDiff, Nat.reduceEqDiff, Nat.reduceBNe, Nat.ble_eq, UInt8.reduceToNat, UInt32.reduceToNat]) (lex_scan_line_fn (B0 := B0) (by simp -implicitDefEqProofs only [go_sem, start, startE, resVs, resV, resC, allV, retK, Nat.reduceBEq, Nat.reduceAdd, Nat.reduceMul, Nat.reduceLeDiff, Nat.reduceEqDiff, Nat.reduceBNe, Nat.ble_eq, UInt8.reduceToNat, UInt32.reduceToNat] <;> simp only [encM_nil])   (ok_mono (show ok (lex_scan_line (lex_scan.mk o2.Builder o2.b_ (w64 (o2.at_ + 1)) o2.last_) r6.1) _ from hh) fun r20 => ?_))
    | with_reducible refine call_to (fun _ (h : lex_scan_open r20.2 = some _) => lex_scan_open_fe (B0 := B0) (by simp -implicitDefEqProofs only [go_sem, start, startE, resVs, resV, resC, allV, retK, Nat.reduceBEq, Nat.reduceAdd, Nat.reduceMul, Nat.reduceLeDiff, Nat.reduceEqDiff, Nat.reduceBNe, Nat.ble_eq, UInt8.reduceToNat, UInt32.reduceToNat] <;> simp only [encM_nil])   h) (fun r21 => ?_)
    | with_reducible refine call_to_q (fun _ (h : lex_scan_open r20.2 = some _) => lex_scan_open_fe (B0 := B0) (by simp -implicitDefEqProofs only [go_sem, start, startE, resVs, resV, resC, allV, retK, Nat.reduceBEq, Nat.reduceAdd, Nat.reduceMul, Nat.reduceLeDiff, Nat.reduceEqDiff, Nat.reduceBNe, Nat.ble_eq, UInt8.reduceToNat, UInt32.reduceToNat] <;> simp only [encM_nil])   h) (fun _ => rfl) (fun r21 => ?_)
    | with_reducible refine fun hh => strings_Builder_String_fn (B0 := B0) (preB0 := []) (postB0 := [.sl false 1 o11.b_.length (flat o11.b_), .int .i64 o11.at_, .bool o11.last_]) (by simp -implicitDefEqProofs only [go_sem, start, startE, resVs, resV, resC, allV, retK, Nat.reduceBEq, Nat.reduceAdd, Nat.reduceMul, Nat.reduceLeDiff, Nat.reduceEqDiff, Nat.reduceBNe, Nat.ble_eq, UInt8.reduceToNat, UInt32.reduceToNat] <;> simp only [encM_nil]) (by first | rfl | simp)  (ok_mono (show ok (strings_Builder_String o11.Builder) _ from hh) fun r22 => ?_)
    | with_reducible refine fun hh => FN_cast (by simp -implicitDefEqProofs only [go_sem, start, startE, resVs, resV, resC, allV, retK, Nat.reduceBEq, Nat.reduceAdd, Nat.reduceMul, Nat.reduceLeDiff, Nat.reduceEqDiff, Nat.reduceBNe, Nat.ble_eq, UInt8.reduceToNat, UInt32.reduceToNat]) (strings_Builder_String_fn (B0 := B0) (preB0 := []) (postB0 := [.sl false 1 o11.b_.length (flat o11.b_), .int .i64 o11.at_, .bool o11.last_]) (by simp -implicitDefEqProofs only [go_sem, start, startE, resVs, resV, resC, allV, retK, Nat.reduceBEq, Nat.reduceAdd, Nat.reduceMul, Nat.reduceLeDiff, Nat.reduceEqDiff, Nat.reduceBNe, Nat.ble_eq, UInt8.reduceToNat, UInt32.reduceToNat] <;> simp only [encM_nil]) (by first | rfl | simp)  (ok_mono (show ok (strings_Builder_String o11.Builder) _ from hh) fun r22 => ?_))
    | with_reducible refine fun hh => strings_Builder_WriteByte_fn (B0 := B0) (preB0 := []) (postB0 := [.sl false 1 o11.b_.length (flat o11.b_), .int .i64 o11.at_, .bool o11.last_]) (by simp -implicitDefEqProofs only [go_sem, start, startE, resVs, resV, resC, allV, retK, Nat.reduceBEq, Nat.reduceAdd, Nat.reduceMul, Nat.reduceLeDiff, Nat.reduceEqDiff, Nat.reduceBNe, Nat.ble_eq, UInt8.reduceToNat, UInt32.reduceToNat] <;> simp only [encM_nil]) (by first | rfl | simp)  (ok_mono (show ok (strings_Builder_WriteByte o11.Builder c10) _ from hh) fun r23 => ?_)
    | with_reducible refine fun hh => FN_cast (by simp -implicitDefEqProofs only [go_sem, start, startE, resVs, resV, resC, allV, retK, Nat.reduceBEq, Nat.reduceAdd, Nat.reduceMul, Nat.reduceLeDiff, Nat.reduceEqDiff, Nat.reduceBNe, Nat.ble_eq, UInt8.reduceToNat, UInt32.reduceToNat]) (strings_Builder_WriteByte_fn (B0 := B0) (preB0 := []) (postB0 := [.sl false 1 o11.b_.length (flat o11.b_), .int .i64 o11.at_, .bool o11.last_]) (by simp -implicitDefEqProofs only [go_sem, start, startE, resVs, resV, resC, allV, retK, Nat.reduceBEq, Nat.reduceAdd, Nat.reduceMul, Nat.reduceLeDiff, Nat.reduceEqDiff, Nat.reduceBNe, Nat.ble_eq, UInt8.reduceToNat, UInt32.reduceToNat] <;> simp only [encM_nil]) (by first | rfl | simp)  (ok_mono (show ok (strings_Builder_WriteByte o11.Builder c10) _ from hh) fun r23 => ?_))
    | ((with_reducible refine join_toS (fun ((deep9, c10, o11) : Int × UInt8 × lex_scan) => ⟨[(0, .ref B0 0), (2, .loc [.int .i64 0, .int .i64 0, .str (Str.mk []).b, .sl true 4 ([] : List api_Value).length (flat ([] : List api_Value))]), (4, .int .i64 deep9), (5, .int .u8 c10.toNat)], [], (s.set B0 (.cells [o11.Builder.a, o11.Builder.b, .sl false 1 o11.b_.length (flat o11.b_), .int .i64 o11.at_, .bool o11.last_]))⟩) (fun J => ?_) ?_); rotate_left; rintro ⟨deep9, c10, o11⟩)
    | ((with_reducible refine jump_to (fun ((deep1, o2) : Int × lex_scan) => ⟨[(0, .ref B0 0), (2, .loc [.int .i64 0, .int .i64 0, .str (Str.mk []).b, .sl true 4 ([] : List api_Value).length (flat ([] : List api_Value))]), (4, .int .i64 deep1)], [], (s.set B0 (.cells [o2.Builder.a, o2.Builder.b, .sl false 1 o2.b_.length (flat o2.b_), .int .i64 o2.at_, .bool o2.last_]))⟩) ?_ ?_); (first | exact rfl | simp -implicitDefEqProofs only [go_sem, start, startE, resVs, resV, resC, allV, retK, Nat.reduceBEq, Nat.reduceAdd, Nat.reduceMul, Nat.reduceLeDiff, Nat.reduceEqDiff, Nat.reduceBNe, Nat.ble_eq, UInt8.reduceToNat, UInt32.reduceToNat]); rintro J ⟨deep1, o2⟩)
    | simp -implicitDefEqProofs only [go_sem, start, startE, resVs, resV, resC, allV, retK, Nat.reduceBEq, Nat.reduceAdd, Nat.reduceMul, Nat.reduceLeDiff, Nat.reduceEqDiff, Nat.reduceBNe, Nat.ble_eq, UInt8.reduceToNat, UInt32.reduceToNat])
def lex_scan_token (s_0 : lex_scan) (c_1 : UInt8) : Option (lex_Token × Int × lex_scan) :=
  bnd (lex_regular c_1) fun r1 =>
  if r1 then
    bnd (lex_scan_regulars s_0) fun r2 =>
    some (r2.1, r2.2.1, r2.2.2)
  else
    if (c_1.toNat : Int) == 91 then
      some ((lex_Token.mk 2 0 0 (api_Value.mk 0 0 (Str.mk []) ([] : List api_Value)) (Str.mk [])), 0, (lex_scan.mk s_0.Builder s_0.b_ (w64 (s_0.at_ + 1)) s_0.last_))
    else
      if (c_1.toNat : Int) == 93 then
        some ((lex_Token.mk 3 0 0 (api_Value.mk 0 0 (Str.mk []) ([] : List api_Value)) (Str.mk [])), 0, (lex_scan.mk s_0.Builder s_0.b_ (w64 (s_0.at_ + 1)) s_0.last_))
      else
        if (c_1.toNat : Int) == 60 then
          bnd (lex_scan_opening (lex_scan.mk s_0.Builder s_0.b_ (w64 (s_0.at_ + 1)) s_0.last_)) fun r3 =>
          some (r3.1, r3.2.1, r3.2.2)
        else
          if (c_1.toNat : Int) == 62 then
            bnd (lex_scan_closing (lex_scan.mk s_0.Builder s_0.b_ (w64 (s_0.at_ + 1)) s_0.last_)) fun r4 =>
            some (r4.1, r4.2.1, r4.2.2)
          else
            if (c_1.toNat : Int) == 40 then
              bnd (lex_scan_text (lex_scan.mk s_0.Builder s_0.b_ (w64 (s_0.at_ + 1)) s_0.last_)) fun r5 =>
              some ((lex_Token.mk 1 0 0 r5.1 (Str.mk [])), r5.2.1, r5.2.2)
            else
              if (c_1.toNat : Int) == 47 then
                bnd (lex_scan_word (lex_scan.mk s_0.Builder s_0.b_ (w64 (s_0.at_ + 1)) s_0.last_)) fun r6 =>
                if !r6.2.1 then
                  some ((lex_Token.mk 0 0 0 (api_Value.mk 0 0 (Str.mk []) ([] : List api_Value)) (Str.mk [])), 6, r6.2.2)
                else
                  bnd (lex_name r6.1) fun r7 =>
                  some ((lex_Token.mk 1 0 0 r7.1 (Str.mk [])), r7.2, r6.2.2)
              else
                some ((lex_Token.mk 0 0 0 (api_Value.mk 0 0 (Str.mk []) ([] : List api_Value)) (Str.mk [])), 11, (lex_scan.mk s_0.Builder s_0.b_ (w64 (s_0.at_ + 1)) s_0.last_))
def ir_lex_scan_token : IC :=
 (.seq (.reg none [i1 4 (.allocL [.int .i64 0, .int .i64 0, .int .i64 0, .int .i64 0, .int .i64 0, .str [], .sl true 4 0 [], .str []]),
 i1 5 (.mov false (.c (.int .i64 0)))] [0, 1, 4])
 (.seq (.seq (.reg none [mv 12 1,
 i1 13 (.call 255 [(.t 12)])] [0, 1, 4, 13])
 (.cond (.t 13) (.seq (.reg none [mv 14 0,
 i1 15 (.call 256 [(.t 14)]),
 i1 16 (.extract (.t 15) 0),
 i1 17 (.extract (.t 15) 1),
 i0 (.store 8 (.t 4) (.t 16)),
 mv 5 17] [4, 5])
 .ret)
 .skip))
 (.seq (.reg none [mv 18 0,
 i1 19 (.nilCheck (.t 18)),
 i1 20 (.fieldAddr 3 (.t 19)),
 i1 21 (.loadR [.int .i64 0] false (.t 20)),
 i1 22 (.bin .add (.t 21) (.c (.int .i64 1))),
 i1 23 (.nilCheck (.t 18)),
 i1 24 (.fieldAddr 3 (.t 23)),
 i0 (.store 1 (.t 24) (.t 22))] [0, 1, 4])
 (.seq (.seq (.reg none [mv 25 1] [0, 4, 25])
 (.block 0 (.seq (.reg none [i1 27 (.bin .eql (.t 25) (.c (.int .u8 91))),
 mv 26 27] [0, 4, 25, 26])
 (.cond (.t 26) (.seq (.reg none [i1 28 (.build [.int .i64 0, .int .i64 0, .int .i64 0, .int .i64 0, .int .i64 0, .str [], .sl true 4 0 [], .str []] [(0, 1, (.c (.int .i64 2)))]),
 i0 (.store 8 (.t 4) (.t 28)),
 i1 5 (.mov false (.c (.int .i64 0)))] [4, 5])
 .ret)
 (.seq (.reg none [i1 30 (.bin .eql (.t 25) (.c (.int .u8 93))),
 mv 29 30] [0, 4, 25, 29])
 (.cond (.t 29) (.seq (.reg none [i1 31 (.build [.int .i64 0, .int .i64 0, .int .i64 0, .int .i64 0, .int .i64 0, .str [], .sl true 4 0 [], .str []] [(0, 1, (.c (.int .i64 3)))]),
 i0 (.store 8 (.t 4) (.t 31)),
 i1 5 (.mov false (.c (.int .i64 0)))] [4, 5])
 .ret)
 (.seq (.reg none [i1 33 (.bin .eql (.t 25) (.c (.int .u8 60))),
 mv 32 33] [0, 4, 25, 32])
 (.cond (.t 32) (.seq (.reg none [mv 34 0,
 i1 35 (.call 257 [(.t 34)]),
 i1 36 (.extract (.t 35) 0),
 i1 37 (.extract (.t 35) 1),
 i0 (.store 8 (.t 4) (.t 36)),
 mv 5 37] [4, 5])
 .ret)
 (.seq (.reg none [i1 39 (.bin .eql (.t 25) (.c (.int .u8 62))),
 mv 38 39] [0, 4, 25, 38])
 (.cond (.t 38) (.seq (.reg none [mv 40 0,
 i1 41 (.call 258 [(.t 40)]),
 i1 42 (.extract (.t 41) 0),
 i1 43 (.extract (.t 41) 1),
 i0 (.store 8 (.t 4) (.t 42)),
 mv 5 43] [4, 5])
 .ret)
 (.seq (.reg none [i1 45 (.bin .eql (.t 25) (.c (.int .u8 40))),
 mv 44 45] [0, 4, 25, 44])
 (.cond (.t 44) (.seq (.reg none [mv 47 0,
 i1 48 (.call 259 [(.t 47)]),
 i1 46 (.movT (.t 48)),
 i1 49 (.extract (.t 46) 0),
 i1 50 (.extract (.t 46) 1),
 i1 6 (.allocL [.int .i64 0, .int .i64 0, .str [], .sl true 4 0 []]),
 i0 (.store 4 (.t 6) (.t 49)),
 mv 7 50] [4, 6, 7])
 (.seq (.reg none [i1 51 (.load 4 true (.t 6)),
 i1 52 (.build [.int .i64 0, .int .i64 0, .int .i64 0, .int .i64 0, .int .i64 0, .str [], .sl true 4 0 [], .str []] [(0, 1, (.c (.int .i64 1))), (3, 4, (.t 51))]),
 mv 53 7,
 i0 (.store 8 (.t 4) (.t 52)),
 mv 5 53] [4, 5])
 .ret))
 (.seq (.reg none [i1 55 (.bin .eql (.t 25) (.c (.int .u8 47))),
 mv 54 55] [0, 4, 54])
 (.cond (.t 54) (.seq (.reg none [mv 57 0,
 i1 58 (.call 260 [(.t 57)]),
 i1 56 (.movT (.t 58)),
 i1 59 (.extract (.t 56) 0),
 i1 60 (.extract (.t 56) 1),
 mv 8 59,
 mv 9 60] [4, 8, 9])
 (.seq (.seq (.reg none [mv 61 9,
 i1 62 (.un .not (.t 61))] [4, 8, 62])
 (.cond (.t 62) (.seq (.reg none [i1 63 (.build [.int .i64 0, .int .i64 0, .int .i64 0, .int .i64 0, .int .i64 0, .str [], .sl true 4 0 [], .str []] []),
 i0 (.store 8 (.t 4) (.t 63)),
 i1 5 (.mov false (.c (.int .i64 6)))] [4, 5])
 .ret)
 .skip))
 (.seq (.reg none [mv 65 8,
 i1 66 (.call 261 [(.t 65)]),
 i1 64 (.movT (.t 66)),
 i1 67 (.extract (.t 64) 0),
 i1 68 (.extract (.t 64) 1),
 i1 10 (.allocL [.int .i64 0, .int .i64 0, .str [], .sl true 4 0 []]),
 i0 (.store 4 (.t 10) (.t 67)),
 mv 11 68] [4, 10, 11])
 (.seq (.reg none [i1 69 (.load 4 true (.t 10)),
 i1 70 (.build [.int .i64 0, .int .i64 0, .int .i64 0, .int .i64 0, .int .i64 0, .str [], .sl true 4 0 [], .str []] [(0, 1, (.c (.int .i64 1))), (3, 4, (.t 69))]),
 mv 71 11,
 i0 (.store 8 (.t 4) (.t 70)),
 mv 5 71] [4, 5])
 .ret))))
 .skip))))))))))))))
 (.seq (.reg none [i1 72 (.build [.int .i64 0, .int .i64 0, .int .i64 0, .int .i64 0, .int .i64 0, .str [], .sl true 4 0 [], .str []] []),
 i0 (.store 8 (.t 4) (.t 72)),
 i1 5 (.mov false (.c (.int .i64 11)))] [4, 5])
 .ret)))))
def res_lex_scan_token : List IRes := [⟨4, false, some (8, true)⟩, ⟨5, true, none⟩]
theorem is_lex_scan_token : fnIs Go.Proofs.Tryz.prog 226 73 res_lex_scan_token ir_lex_scan_token = true := by kernel_rfl
theorem lex_scan_token_fn {s_0 c_1} {B0 : Nat} {s : Store} {Q : List AV → Store → Prop} (hB0 : s B0 = some (.cells [s_0.Builder.a, s_0.Builder.b, .sl false 1 s_0.b_.length (flat s_0.b_), .int .i64 s_0.at_, .bool s_0.last_])) : ok (lex_scan_token s_0 c_1) (fun r => Q [.agg [.int .i64 r.1.Kind, .int .i64 r.1.From, .int .i64 r.1.To, .int .i64 r.1.V.Kind, .int .i64 r.1.V.N, .str r.1.V.S.b, .sl false 4 r.1.V.L.length (flat r.1.V.L), .str r.1.S.b], .int .i64 r.2.1] (s.set B0 (.cells [r.2.2.Builder.a, r.2.2.Builder.b, .sl false 1 r.2.2.b_.length (flat r.2.2.b_), .int .i64 r.2.2.at_, .bool r.2.2.last_]))) → FN Go.Proofs.Tryz.prog 226 [.ref B0 0, .int .u8 c_1.toNat] s Q := by
  have hS : s = (s.set B0 (.cells [s_0.Builder.a, s_0.Builder.b, .sl false 1 s_0.b_.length (flat s_0.b_), .int .i64 s_0.at_, .bool s_0.last_])) := by simp only [set_eq' hB0]
  rw [hS]
  intro h
  refine FN.of (draw_ok mix) is_lex_scan_token rfl (Nat.le_of_ble_eq_true rfl) ?_
  revert h
  rw [ir_lex_scan_token, res_lex_scan_token, lex_scan_token]
  repeat' (first
    | with_reducible exact tt_to
    | with_reducible refine and_to ?_ ?_
    | with_reducible exact im_and
    | with_reducible refine im_to ?_
    | with_reducible refine call_to (fun _ (h : lex_regular c_1 = some _) => lex_regular_fe h) (fun r1 => ?_)
    | with_reducible refine call_to_q (fun _ (h : lex_regular c_1 = some _) => lex_regular_fe h) (fun _ => rfl) (fun r1 => ?_)
    | with_reducible refine call_to (fun _ (h : lex_regular c_1 = some _) => (by refine FE_cast ?_ (lex_regular_fe h); simp -implicitDefEqProofs only [go_sem, start, startE, resVs, resV, resC, allV, retK, Nat.reduceBEq, Nat.reduceAdd, Nat.reduceMul, Nat.reduceLeDiff, Nat.reduceEqDiff, Nat.reduceBNe, Nat.ble_eq, UInt8.reduceToNat, UInt32.reduceToNat])) (fun r1 => ?_)
    | with_reducible refine call_to_q (fun _ (h : lex_regular c_1 = some _) => (by refine FE_cast ?_ (lex_regular_fe h); simp -implicitDefEqProofs only [go_sem, start, startE, resVs, resV, resC, allV, retK, Nat.reduceBEq, Nat.reduceAdd, Nat.reduceMul, Nat.reduceLeDiff, Nat.reduceEqDiff, Nat.reduceBNe, Nat.ble_eq, UInt8.reduceToNat, UInt32.reduceToNat])) (fun _ => rfl) (fun r1 => ?_)
    | with_reducible refine fun hh => lex_scan_regulars_fn (B0 := B0) (by simp -implicitDefEqProofs only [go_sem, start, startE, resVs, resV, resC, allV, retK, Nat.reduceBEq, Nat.reduceAdd, Nat.reduceMul, Nat.reduceLeDiff, Nat.reduceEqDiff, Nat.reduceBNe, Nat.ble_eq, UInt8.reduceToNat, UInt32.reduceToNat] <;> simp only [encM_nil])   (ok_mono (show ok (lex_scan_regulars s_0) _ from hh) fun r2 => ?_)
    | with_reducible refine fun hh => FN_cast (by simp -implicitDefEqProofs only [go_sem, start, startE, resVs, resV, resC, allV, retK, Nat.reduceBEq, Nat.reduceAdd, Nat.reduceMul, Nat.reduceLeDiff, Nat.reduceEqDiff, Nat.reduceBNe, Nat.ble_eq, UInt8.reduceToNat, UInt32.reduceToNat]) (lex_scan_regulars_fn (B0 := B0) (by simp -implicitDefEqProofs only [go_sem, start, startE, resVs, resV, resC, allV, retK, Nat.reduceBEq, Nat.reduceAdd, Nat.reduceMul, Nat.reduceLeDiff, Nat.reduceEqDiff, Nat.reduceBNe, Nat.ble_eq, UInt8.reduceToNat, UInt32.reduceToNat] <;> simp only [encM_nil])   (ok_mono (show ok (lex_scan_regulars s_0) _ from hh) fun r2 => ?_))
    | with_reducible refine fun hh => lex_scan_opening_fn (B0 := B0) (by simp -implicitDefEqProofs only [go_sem, start, startE, resVs, resV, resC, allV, retK, Nat.reduceBEq, Nat.reduceAdd, Nat.reduceMul, Nat.reduceLeDiff, Nat.reduceEqDiff, Nat.reduceBNe, Nat.ble_eq, UInt8.reduceToNat, UInt32.reduceToNat] <;> simp only [encM_nil])   (ok_mono (show ok (lex_scan_opening (lex_scan.mk s_0.Builder s_0.b_ (w64 (s_0.at_ + 1)) s_0.last_)) _ from hh) fun r3 => ?_)
    | with_reducible refine fun hh => FN_cast (by simp -implicitDefEqProofs only [go_sem, start, startE, resVs, resV, resC, allV, retK, Nat.reduceBEq, Nat.reduceAdd, Nat.reduceMul, Nat.reduceLeDiff, Nat.reduceEqDiff, Nat.reduceBNe, Nat.ble_eq, UInt8.reduceToNat, UInt32.reduceToNat]) (lex_scan_opening_fn (B0 := B0) (by simp -implicitDefEqProofs only [go_sem, start, startE, resVs, resV, resC, allV, retK, Nat.reduceBEq, Nat.reduceAdd, Nat.reduceMul, Nat.reduceLeDiff, Nat.reduceEqDiff, Nat.reduceBNe, Nat.ble_eq, UInt8.reduceToNat, UInt32.reduceToNat] <;> simp only [encM_nil])   (ok_mono (show ok (lex_scan_opening (lex_scan.mk s_0.Builder s_0.b_ (w64 (s_0.at_ + 1)) s_0.last_)) _ from hh) fun r3 => ?_))
    | with_reducible refine fun hh => lex_scan_closing_fn (B0 := B0) (by simp -implicitDefEqProofs only [go_sem, start, startE, resVs, resV, resC, allV, retK, Nat.reduceBEq, Nat.reduceAdd, Nat.reduceMul, Nat.reduceLeDiff, Nat.reduceEqDiff, Nat.reduceBNe, Nat.ble_eq, UInt8.reduceToNat, UInt32.reduceToNat] <;> simp only [encM_nil])   (ok_mono (show ok (lex_scan_closing (lex_scan.mk s_0.Builder s_0.b_ (w64 (s_0.at_ + 1)) s_0.last_)) _ from hh) fun r4 => ?_)
    | with_reducible refine fun hh => FN_cast (by simp -implicitDefEqProofs only [go_sem, start, startE, resVs, resV, resC, allV, retK, Nat.reduceBEq, Nat.reduceAdd, Nat.reduceMul, Nat.reduceLeDiff, Nat.reduceEqDiff, Nat.reduceBNe, Nat.ble_eq, UInt8.reduceToNat, UInt32.reduceToNat]) (lex_scan_closing_fn (B0 := B0) (by simp -implicitDefEqProofs only [go_sem, start, startE, resVs, resV, resC, allV, retK, Nat.reduceBEq, Nat.reduceAdd, Nat.reduceMul, Nat.reduceLeDiff, Nat.reduceEqDiff, Nat.reduceBNe, Nat.ble_eq, UInt8.reduceToNat, UInt32.reduceToNat] <;> simp only [encM_nil])   (ok_mono (show ok (lex_scan_closing (lex_scan.mk s_0.Builder s_0.b_ (w64 (s_0.at_ + 1)) s_0.last_)) _ from hh) fun r4 => ?_))
    | with_reducible refine fun hh => lex_scan_text_fn (B0 := B0) (by simp -implicitDefEqProofs only [go_sem, start, startE, resVs, resV, resC, allV, retK, Nat.reduceBEq, Nat.reduceAdd, Nat.reduceMul, Nat.reduceLeDiff, Nat.reduceEqDiff, Nat.reduceBNe, Nat.ble_eq, UInt8.reduceToNat, UInt32.reduceToNat] <;> simp only [encM_nil])   (ok_mono (show ok (lex_scan_text (lex_scan.mk s_0.Builder s_0.b_ (w64 (s_0.at_ + 1)) s_0.last_)) _ from hh) fun r5 => ?_)
    | with_reducible refine fun hh => FN_cast (by simp -implicitDefEqProofs only [go_sem, start, startE, resVs, resV, resC, allV, retK, Nat.reduceBEq, Nat.reduceAdd, Nat.reduceMul, Nat.reduceLeDiff, Nat.reduceEqDiff, Nat.reduceBNe, Nat.ble_eq, UInt8.reduceToNat, UInt32.reduceToNat]) (lex_scan_text_fn (B0 := B0) (by simp -implicitDefEqProofs only [go_sem, start, startE, resVs, resV, resC, allV, retK, Nat.reduceBEq, Nat.reduceAdd, Nat.reduceMul, Nat.reduceLeDiff, Nat.reduceEqDiff, Nat.reduceBNe, Nat.ble_eq, UInt8.reduceToNat, UInt32.reduceToNat] <;> simp only [encM_nil])   (ok_mono (show ok (lex_scan_text (lex_scan.mk s_0.Builder s_0.b_ (w64 (s_0.at_ + 1)) s_0.last_)) _ from hh) fun r5 => ?_))
    | with_reducible refine fun hh => lex_scan_word_fn (B0 := B0) (by simp -implicitDefEqProofs only [go_sem, start, startE, resVs, resV, resC, allV, retK, Nat.reduceBEq, Nat.reduceAdd, Nat.reduceMul, Nat.reduceLeDiff, Nat.reduceEqDiff, Nat.reduceBNe, Nat.ble_eq, UInt8.reduceToNat, UInt32.reduceToNat] <;> simp only [encM_nil])   (ok_mono (show ok (lex_scan_word (lex_scan.mk s_0.Builder s_0.b_ (w64 (s_0.at_ + 1)) s_0.last_)) _ from hh) fun r6 => ?_)
    | with_reducible refine fun hh => FN_cast (by simp -implicitDefEqProofs only [go_sem, start, startE, resVs, resV, resC, allV, retK, Nat.reduceBEq, Nat.reduceAdd, Nat.reduceMul, Nat.reduceLeDiff, Nat.reduceEqDiff, Nat.reduceBNe, Nat.ble_eq, UInt8.reduceToNat, UInt32.reduceToNat]) (lex_scan_word_fn (B0 := B0) (by simp -implicitDefEqProofs only [go_sem, start, startE, resVs, resV, resC, allV, retK, Nat.reduceBEq, Nat.reduceAdd, Nat.reduceMul, Nat.reduceLeDiff, Nat.reduceEqDiff, Nat.reduceBNe, Nat.ble_eq, UInt8.reduceToNat, UInt32.reduceToNat] <;> simp only [encM_nil])   (ok_mono (show ok (lex_scan_word (lex_scan.mk s_0.Builder s_0.b_ (w64 (s_0.at_ + 1)) s_0.last_)) _ from hh) fun r6 => ?_))
    | with_reducible refine call_to (fun _ (h : lex_name r6.1 = some _) => lex_name_fe h) (fun r7 => ?_)
    | with_reducible refine call_to_q (fun _ (h : lex_name r6.1 = some _) => lex_name_fe h) (fun _ => rfl) (fun r7 => ?_)
    | with_reducible refine call_to (fun _ (h : lex_name r6.1 = some _) => (by refine FE_cast ?_ (lex_name_fe h); simp -implicitDefEqProofs only [go_sem, start, startE, resVs, resV, resC, allV, retK, Nat.reduceBEq, Nat.reduceAdd, Nat.reduceMul, Nat.reduceLeDiff, Nat.reduceEqDiff, Nat.reduceBNe, Nat.ble_eq, UInt8.reduceToNat, UInt32.reduceToNat])) (fun r7 => ?_)
    | with_reducible refine call_to_q (fun _ (h : lex_name r6.1 = some _) => (by refine FE_cast ?_ (lex_name_fe h); simp -implicitDefEqProofs only [go_sem, start, startE, resVs, resV, resC, allV, retK, Nat.reduceBEq, Nat.reduceAdd, Nat.reduceMul, Nat.reduceLeDiff, Nat.reduceEqDiff, Nat.reduceBNe, Nat.ble_eq, UInt8.reduceToNat, UInt32.reduceToNat])) (fun _ => rfl) (fun r7 => ?_)
    | simp -implicitDefEqProofs only [go_sem, start, startE, resVs, resV, resC, allV, retK, Nat.reduceBEq, Nat.reduceAdd, Nat.reduceMul, Nat.reduceLeDiff, Nat.reduceEqDiff, Nat.reduceBNe, Nat.ble_eq, UInt8.reduceToNat, UInt32.reduceToNat])
def lex_Next (b_0 : (List UInt8)) (at_1 : Int) (last_2 : Bool) : Option (lex_Token × Int) :=
  if (decide (at_1 < 0)) || (decide (at_1 > (b_0.length : Int))) then
    some ((lex_Token.mk 0 0 0 (api_Value.mk 0 0 (Str.mk []) ([] : List api_Value)) (Str.mk [])), 2)
  else
    bnd (lex_Skip b_0 at_1) fun r1 =>
    if r1 == (b_0.length : Int) then
      if last_2 then
        some ((lex_Token.mk 0 r1 r1 (api_Value.mk 0 0 (Str.mk []) ([] : List api_Value)) (Str.mk [])), 0)
      else
        some ((lex_Token.mk 0 r1 r1 (api_Value.mk 0 0 (Str.mk []) ([] : List api_Value)) (Str.mk [])), 6)
    else
      need (0 ≤ r1 ∧ r1 < b_0.length) <|
      bnd (lex_scan_token (lex_scan.mk Bld.zero b_0 r1 last_2) (ix b_0 r1)) fun r2 =>
      if r2.2.1 != 0 then
        some ((lex_Token.mk 0 r1 r1 (api_Value.mk 0 0 (Str.mk []) ([] : List api_Value)) (Str.mk [])), r2.2.1)
      else
        some ((lex_Token.mk r2.1.Kind r1 r2.2.2.at_ r2.1.V r2.1.S), 0)
def ir_lex_Next : IC :=
 (.seq (.reg none [i1 6 (.allocL [.int .i64 0, .int .i64 0, .int .i64 0, .int .i64 0, .int .i64 0, .str [], .sl true 4 0 [], .str []]),
 i1 7 (.mov false (.c (.int .i64 0)))] [0, 1, 2, 6])
 (.seq (.seq (.reg none [mv 12 1,
 i1 13 (.bin .lss (.t 12) (.c (.int .i64 0))),
 mv 14 13,
 mvg 15 1 14 false,
 mvg 16 0 14 false,
 i1g 17 14 false (.len 0 (.t 16)),
 i1g 18 14 false (.bin .gtr (.t 15) (.t 17)),
 i1 19 (.pick (.t 14) (.c (.bool true)) (.t 18))] [0, 1, 2, 6, 19])
 (.cond (.t 19) (.seq (.reg none [i1 20 (.build [.int .i64 0, .int .i64 0, .int .i64 0, .int .i64 0, .int .i64 0, .str [], .sl true 4 0 [], .str []] []),
 i0 (.store 8 (.t 6) (.t 20)),
 i1 7 (.mov false (.c (.int .i64 2)))] [6, 7])
 .ret)
 .skip))
 (.seq (.reg none [mv 21 0,
 mv 22 1,
 i1 23 (.call 225 [(.t 21), (.t 22)]),
 mv 8 23] [0, 2, 6, 8])
 (.seq (.seq (.reg none [mv 24 8,
 mv 25 0,
 i1 26 (.len 0 (.t 25)),
 i1 27 (.bin .eql (.t 24) (.t 26))] [0, 2, 6, 8, 27])
 (.cond (.t 27) (.seq (.seq (.reg none [mv 28 2] [6, 8, 28])
 (.cond (.t 28) (.seq (.reg none [mv 29 8,
 mv 30 8,
 i1 31 (.build [.int .i64 0, .int .i64 0, .int .i64 0, .int .i64 0, .int .i64 0, .str [], .sl true 4 0 [], .str []] [(1, 1, (.t 29)), (2, 1, (.t 30))]),
 i0 (.store 8 (.t 6) (.t 31)),
 i1 7 (.mov false (.c (.int .i64 0)))] [6, 7])
 .ret)
 .skip))
 (.seq (.reg none [mv 32 8,
 mv 33 8,
 i1 34 (.build [.int .i64 0, .int .i64 0, .int .i64 0, .int .i64 0, .int .i64 0, .str [], .sl true 4 0 [], .str []] [(1, 1, (.t 32)), (2, 1, (.t 33))]),
 i0 (.store 8 (.t 6) (.t 34)),
 i1 7 (.mov false (.c (.int .i64 6)))] [6, 7])
 .ret))
 .skip))
 (.seq (.reg none [mv 35 0,
 mv 36 8,
 mv 37 2,
 i1 38 (.build [.nilp, .sl true 1 0 [], .sl true 1 0 [], .int .i64 0, .bool false] [(2, 1, (.t 35)), (3, 1, (.t 36)), (4, 1, (.t 37))]),
 i1 39 (.boxS 5 (.t 38)),
 mv 9 39] [0, 6, 8, 9])
 (.seq (.reg none [mv 41 9,
 mt 42 0,
 mv 43 8,
 i1 44 (.indexAddr [.int .u8 0] (.t 42) (.t 43)),
 i1 45 (.load 1 false (.t 44)),
 i1 46 (.call 226 [(.t 41), (.t 45)]),
 i1 40 (.movT (.t 46)),
 i1 47 (.extract (.t 40) 0),
 i1 48 (.extract (.t 40) 1),
 i1 10 (.allocL [.int .i64 0, .int .i64 0, .int .i64 0, .int .i64 0, .int .i64 0, .str [], .sl true 4 0 [], .str []]),
 i0 (.store 8 (.t 10) (.t 47)),
 mv 11 48] [6, 8, 9, 10, 11])
 (.seq (.seq (.reg none [mv 49 11,
 i1 50 (.bin .neq (.t 49) (.c (.int .i64 0)))] [6, 8, 9, 10, 11, 50])
 (.cond (.t 50) (.seq (.reg none [mv 51 8,
 mv 52 8,
 i1 53 (.build [.int .i64 0, .int .i64 0, .int .i64 0, .int .i64 0, .int .i64 0, .str [], .sl true 4 0 [], .str []] [(1, 1, (.t 51)), (2, 1, (.t 52))]),
 mv 54 11,
 i0 (.store 8 (.t 6) (.t 53)),
 mv 7 54] [6, 7])
 .ret)
 .skip))
 (.seq (.regX [[false, false, false, false, false, false, false, false, false], [false, false, false, false, false, false, false, false, false], [false, true, false, false, false, false, false, false, false], [false, false, true, false, false, false, false, false, false], [false, false, false, true, false, false, false, false, false], [true, false, false, false, false, false, false, false, false], [true, false, false, false, false, true, false, false, false], [true, true, true, true, true, true, true, false, false], [true, true, true, true, true, true, true, true, false]] [mv 55 8,
 mv 56 9,
 i1 57 (.nilCheck (.t 56)),
 i1 58 (.fieldAddr 3 (.t 57)),
 i1 59 (.loadR [.int .i64 0] false (.t 58)),
 i1 60 (.fieldAddr 1 (.t 10)),
 i0 (.store 1 (.t 60) (.t 55)),
 i1 61 (.fieldAddr 2 (.t 10)),
 i0 (.store 1 (.t 61) (.t 59))] [6, 10])
 (.seq (.reg none [i1 62 (.load 8 true (.t 10)),
 i0 (.store 8 (.t 6) (.t 62)),
 i1 7 (.mov false (.c (.int .i64 0)))] [6, 7])
 .ret)))))))))
def res_lex_Next : List IRes := [⟨6, false, some (8, true)⟩, ⟨7, true, none⟩]
theorem is_lex_Next : fnIs Go.Proofs.Tryz.prog 185 63 res_lex_Next ir_lex_Next = true := by kernel_rfl
set_option maxHeartbeats 8000000 in
theorem lex_Next_fn {b_0 at_1 last_2} {s : Store} {Q : List AV → Store → Prop}  : ok (lex_Next b_0 at_1 last_2) (fun r => Q [.agg [.int .i64 r.1.Kind, .int .i64 r.1.From, .int .i64 r.1.To, .int .i64 r.1.V.Kind, .int .i64 r.1.V.N, .str r.1.V.S.b, .sl false 4 r.1.V.L.length (flat r.1.V.L), .str r.1.S.b], .int .i64 r.2] s) → FN Go.Proofs.Tryz.prog 185 [.sl false 1 b_0.length (flat b_0), .int .i64 at_1, .bool last_2] s Q := by
  intro h
  refine FN.forget ?_
  refine FN.of (draw_ok mix) is_lex_Next rfl (Nat.le_of_ble_eq_true rfl) ?_
  revert h
  rw [ir_lex_Next, res_lex_Next, lex_Next]
  repeat' (first
    | with_reducible exact tt_to
    | with_reducible refine and_to ?_ ?_
    | with_reducible exact im_and
    | with_reducible refine im_to ?_
    | ((with_reducible apply x_to); (· intro Q' hQ; repeat' (first | exact hQ | (simp only [xwpK_eq, xwp_cons, xalt_cons, xalt_nil, xrdy, xrev, Bool.not_true, Bool.not_false, Bool.or_true, Bool.true_or, Bool.false_or, Bool.or_false, Bool.and_true, Bool.true_and, Bool.and_false, Bool.false_and, cond_true, cond_false, true_and, and_true]; done) | with_reducible refine ⟨?_, ?_⟩ | with_reducible exact trivial | simp only [xwpK_eq, xwp_cons, xalt_cons, xalt_nil, xrdy, xrev, Bool.not_true, Bool.not_false, Bool.or_true, Bool.true_or, Bool.false_or, Bool.or_false, Bool.and_true, Bool.true_and, Bool.and_false, Bool.false_and, cond_true, cond_false, true_and, and_true] | simp -implicitDefEqProofs only [go_sem, start, startE, resVs, resV, resC, allV, retK, Nat.reduceBEq, Nat.reduceAdd, Nat.reduceMul, Nat.reduceLeDiff, Nat.reduceEqDiff, Nat.reduceBNe, Nat.ble_eq, UInt8.reduceToNat, UInt32.reduceToNat])))
    | with_reducible refine call_to (fun _ (h : lex_Skip b_0 at_1 = some _) => lex_Skip_fe h) (fun r1 => ?_)
    | with_reducible refine call_to_q (fun _ (h : lex_Skip b_0 at_1 = some _) => lex_Skip_fe h) (fun _ => rfl) (fun r1 => ?_)
    | with_reducible refine call_to (fun _ (h : lex_Skip b_0 at_1 = some _) => (by refine FE_cast ?_ (lex_Skip_fe h); simp -implicitDefEqProofs only [go_sem, start, startE, resVs, resV, resC, allV, retK, Nat.reduceBEq, Nat.reduceAdd, Nat.reduceMul, Nat.reduceLeDiff, Nat.reduceEqDiff, Nat.reduceBNe, Nat.ble_eq, UInt8.reduceToNat, UInt32.reduceToNat])) (fun r1 => ?_)
    | with_reducible refine call_to_q (fun _ (h : lex_Skip b_0 at_1 = some _) => (by refine FE_cast ?_ (lex_Skip_fe h); simp -implicitDefEqProofs only [go_sem, start, startE, resVs, resV, resC, allV, retK, Nat.reduceBEq, Nat.reduceAdd, Nat.reduceMul, Nat.reduceLeDiff, Nat.reduceEqDiff, Nat.reduceBNe, Nat.ble_eq, UInt8.reduceToNat, UInt32.reduceToNat])) (fun _ => rfl) (fun r1 => ?_)
    | with_reducible refine fun hh => lex_scan_token_fn (B0 := N1) (by simp -implicitDefEqProofs only [go_sem, start, startE, resVs, resV, resC, allV, retK, Nat.reduceBEq, Nat.reduceAdd, Nat.reduceMul, Nat.reduceLeDiff, Nat.reduceEqDiff, Nat.reduceBNe, Nat.ble_eq, UInt8.reduceToNat, UInt32.reduceToNat] <;> simp only [encM_nil])   (ok_mono (show ok (lex_scan_token (lex_scan.mk Bld.zero b_0 r1 last_2) (ix b_0 r1)) _ from hh) fun r2 => ?_)
    | with_reducible refine fun hh => FN_cast (by simp -implicitDefEqProofs only [go_sem, start, startE, resVs, resV, resC, allV, retK, Nat.reduceBEq, Nat.reduceAdd, Nat.reduceMul, Nat.reduceLeDiff, Nat.reduceEqDiff, Nat.reduceBNe, Nat.ble_eq, UInt8.reduceToNat, UInt32.reduceToNat]) (lex_scan_token_fn (B0 := N1) (by simp -implicitDefEqProofs only [go_sem, start, startE, resVs, resV, resC, allV, retK, Nat.reduceBEq, Nat.reduceAdd, Nat.reduceMul, Nat.reduceLeDiff, Nat.reduceEqDiff, Nat.reduceBNe, Nat.ble_eq, UInt8.reduceToNat, UInt32.reduceToNat] <;> simp only [encM_nil])   (ok_mono (show ok (lex_scan_token (lex_scan.mk Bld.zero b_0 r1 last_2) (ix b_0 r1)) _ from hh) fun r2 => ?_))
    | ((fail_if_success (have _x := sN1)); with_reducible intro hh N1 hN1; (try simp only [set_none] at hN1); have sN1 := hN1; revert hh)
    | with_reducible exact fun hh => ⟨_, SubS.set (SubS.refl _) (by simp [Store.set, sN1]), hh⟩
    | with_reducible exact fun hh => ⟨_, SubS.refl _, hh⟩
    | simp -implicitDefEqProofs only [go_sem, start, startE, resVs, resV, resC, allV, retK, Nat.reduceBEq, Nat.reduceAdd, Nat.reduceMul, Nat.reduceLeDiff, Nat.reduceEqDiff, Nat.reduceBNe, Nat.ble_eq, UInt8.reduceToNat, UInt32.reduceToNat]
    | simp -implicitDefEqProofs only [go_sem, start, startE, resVs, resV, resC, allV, retK, Nat.reduceBEq, Nat.reduceAdd, Nat.reduceMul, Nat.reduceLeDiff, Nat.reduceEqDiff, Nat.reduceBNe, Nat.ble_eq, UInt8.reduceToNat, UInt32.reduceToNat])
theorem lex_Next_fe {b_0 at_1 last_2} {s : Store} {r : lex_Token × Int}  (h : lex_Next b_0 at_1 last_2 = some r) : FE Go.Proofs.Tryz.prog 185 [.sl false 1 b_0.length (flat b_0), .int .i64 at_1, .bool last_2] s [.agg [.int .i64 r.1.Kind, .int .i64 r.1.From, .int .i64 r.1.To, .int .i64 r.1.V.Kind, .int .i64 r.1.V.N, .str r.1.V.S.b, .sl false 4 r.1.V.L.length (flat r.1.V.L), .str r.1.S.b], .int .i64 r.2] s := lex_Next_fn  ⟨r, h, rfl, rfl⟩
end Go.AB
end

section
set_option maxRecDepth 4000
namespace Go.AB
open Go
def ir_parse_one : IC :=
 (.seq (.reg none [i1 8 (.allocL [.int .i64 0, .int .i64 0, .int .i64 0, .int .i64 0, .int .i64 0, .str [], .sl true 4 0 [], .str []]),
 i1 9 (.mov false (.c (.int .i64 0)))] [0, 1, 2, 3, 8])
 (.seq (.reg none [mt 13 0,
 mv 14 1,
 mv 15 2,
 i1 16 (.call 185 [(.t 13), (.t 14), (.t 15)]),
 i1 12 (.movT (.t 16)),
 i1 17 (.extract (.t 12) 0),
 i1 18 (.extract (.t 12) 1),
 i1 10 (.allocL [.int .i64 0, .int .i64 0, .int .i64 0, .int .i64 0, .int .i64 0, .str [], .sl true 4 0 [], .str []]),
 i0 (.store 8 (.t 10) (.t 17)),
 mv 11 18] [3, 8, 10, 11])
 (.seq (.block 0 (.seq (.reg none [mv 20 11,
 i1 21 (.bin .neq (.t 20) (.c (.int .i64 0))),
 mv 19 21] [3, 8, 10, 11, 19])
 (.cond (.t 19) (.seq (.reg none [i1 22 (.build [.int .i64 0, .int .i64 0, .int .i64 0, .int .i64 0, .int .i64 0, .str [], .sl true 4 0 [], .str []] []),
 mv 23 11,
 i0 (.store 8 (.t 8) (.t 22)),
 mv 9 23] [8, 9])
 .ret)
 (.seq (.reg none [i1 25 (.fieldAddr 0 (.t 10)),
 i1 26 (.load 1 false (.t 25)),
 i1 27 (.bin .eql (.t 26) (.c (.int .i64 0))),
 mv 24 27] [3, 8, 10, 24])
 (.cond (.t 24) (.seq (.reg none [i1 28 (.build [.int .i64 0, .int .i64 0, .int .i64 0, .int .i64 0, .int .i64 0, .str [], .sl true 4 0 [], .str []] []),
 i0 (.store 8 (.t 8) (.t 28)),
 i1 9 (.mov false (.c (.int .i64 10)))] [8, 9])
 .ret)
 (.seq (.reg none [mv 30 3,
 i1 31 (.load 8 true (.t 10)),
 i1 32 (.callv (.t 30) [(.t 31)]),
 i1 33 (.un .not (.t 32)),
 mv 29 33] [8, 10, 29])
 (.cond (.t 29) (.seq (.reg none [i1 34 (.build [.int .i64 0, .int .i64 0, .int .i64 0, .int .i64 0, .int .i64 0, .str [], .sl true 4 0 [], .str []] []),
 i0 (.store 8 (.t 8) (.t 34)),
 i1 9 (.mov false (.c (.int .i64 11)))] [8, 9])
 .ret)
 .skip)))))))
 (.seq (.reg none [i1 35 (.load 8 true (.t 10)),
 i0 (.store 8 (.t 8) (.t 35)),
 i1 9 (.mov false (.c (.int .i64 0)))] [8, 9])
 .ret))))
def res_parse_one : List IRes := [⟨8, false, some (8, true)⟩, ⟨9, true, none⟩]
theorem is_parse_one : fnIs Go.Proofs.Tryz.prog 182 36 res_parse_one ir_parse_one = true := by kernel_rfl
def parse_one (isM : lex_Token → Option Bool) (b : List UInt8) (at_ : Int) (last : Bool) : Option (lex_Token × Int) :=
  bnd (lex_Next b at_ last) fun r =>
  if r.2 != 0 then some (⟨0, 0, 0, ⟨0, 0, ⟨[]⟩, []⟩, ⟨[]⟩⟩, r.2)
  else if r.1.Kind == 0 then some (⟨0, 0, 0, ⟨0, 0, ⟨[]⟩, []⟩, ⟨[]⟩⟩, 10)
  else bnd (isM r.1) fun m =>
    if !m then some (⟨0, 0, 0, ⟨0, 0, ⟨[]⟩, []⟩, ⟨[]⟩⟩, 11) else some (r.1, 0)
theorem parse_one_fn {isM : lex_Token → Option Bool} {b : List UInt8} {at_ : Int} {last : Bool} {c : Nat} {caps : List AV} {s : Store} {Q : List AV → Store → Prop} (hok : (fnOK Go.Proofs.Tryz.prog c = true) = True) (hv : argsV (fun x => match x with | .c a => a | _ => .undef) (caps.map .c) = some caps)
    (hc : ∀ t r, isM t = some r → FE Go.Proofs.Tryz.prog c ([.agg [.int .i64 t.Kind, .int .i64 t.From, .int .i64 t.To, .int .i64 t.V.Kind, .int .i64 t.V.N, .str t.V.S.b, .sl false 4 t.V.L.length (flat t.V.L), .str t.S.b]] ++ caps) s [.bool r] s) : ok (parse_one isM b at_ last) (fun r => Q [.agg [.int .i64 r.1.Kind, .int .i64 r.1.From, .int .i64 r.1.To, .int .i64 r.1.V.Kind, .int .i64 r.1.V.N, .str r.1.V.S.b, .sl false 4 r.1.V.L.length (flat r.1.V.L), .str r.1.S.b], .int .i64 r.2] s) → FN Go.Proofs.Tryz.prog 182 [.sl false 1 b.length (flat b), .int .i64 at_, .bool last, .fn c [] caps] s Q := by
  intro hh
  refine FN.weak (FN.of (draw_ok mix) is_parse_one rfl (Nat.le_of_ble_eq_true rfl) ?_)
  rw [ir_parse_one, res_parse_one]
  revert hh
  rw [parse_one]
  simp -implicitDefEqProofs only [go_sem, start, startE, resVs, resV, resC, allV, retK, Nat.reduceBEq, Nat.reduceAdd, Nat.reduceMul, Nat.reduceLeDiff, Nat.reduceEqDiff, Nat.reduceBNe, Nat.ble_eq, UInt8.reduceToNat, UInt32.reduceToNat]
  refine call_to (fun _ h => lex_Next_fe h) (fun r => ?_)
  simp -implicitDefEqProofs only [go_sem, start, startE, resVs, resV, resC, allV, retK, Nat.reduceBEq, Nat.reduceAdd, Nat.reduceMul, Nat.reduceLeDiff, Nat.reduceEqDiff, Nat.reduceBNe, Nat.ble_eq, UInt8.reduceToNat, UInt32.reduceToNat]
  rintro ⟨h1, h2⟩
  refine ⟨fun hc1 => ⟨s, Sub.refl s, h1 hc1⟩, fun hc1 => ?_⟩
  have h2 := h2 hc1
  refine ⟨fun hc2 => ⟨s, Sub.refl s, h2.1 hc2⟩, fun hc2 => ?_⟩
  obtain ⟨m, hm, h3⟩ := h2.2 hc2
  simp -implicitDefEqProofs only [go_sem, start, startE, resVs, resV, resC, allV, retK, Nat.reduceBEq, Nat.reduceAdd, Nat.reduceMul, Nat.reduceLeDiff, Nat.reduceEqDiff, Nat.reduceBNe, Nat.ble_eq, UInt8.reduceToNat, UInt32.reduceToNat, hok]
  refine FE.app (hc r.1 m hm) ⟨rfl, ?_⟩
  cases m
  · have h4 := h3.1 rfl
    simp -implicitDefEqProofs only [go_sem, start, startE, resVs, resV, resC, allV, retK, Nat.reduceBEq, Nat.reduceAdd, Nat.reduceMul, Nat.reduceLeDiff, Nat.reduceEqDiff, Nat.reduceBNe, Nat.ble_eq, UInt8.reduceToNat, UInt32.reduceToNat]
    exact ⟨fun _ => ⟨s, Sub.refl s, h4⟩, fun h => absurd h (by simp)⟩
  · have h4 := h3.2 rfl
    simp -implicitDefEqProofs only [go_sem, start, startE, resVs, resV, resC, allV, retK, Nat.reduceBEq, Nat.reduceAdd, Nat.reduceMul, Nat.reduceLeDiff, Nat.reduceEqDiff, Nat.reduceBNe, Nat.ble_eq, UInt8.reduceToNat, UInt32.reduceToNat]
    exact ⟨fun h => absurd h (by simp), fun _ => ⟨s, Sub.refl s, h4⟩⟩
theorem parse_one_fe {isM : lex_Token → Option Bool} {b : List UInt8} {at_ : Int} {last : Bool} {c : Nat} {caps : List AV} {s : Store} {r : lex_Token × Int} (hok : (fnOK Go.Proofs.Tryz.prog c = true) = True) (hv : argsV (fun x => match x with | .c a => a | _ => .undef) (caps.map .c) = some caps)
    (hc : ∀ t r, isM t = some r → FE Go.Proofs.Tryz.prog c ([.agg [.int .i64 t.Kind, .int .i64 t.From, .int .i64 t.To, .int .i64 t.V.Kind, .int .i64 t.V.N, .str t.V.S.b, .sl false 4 t.V.L.length (flat t.V.L), .str t.S.b]] ++ caps) s [.bool r] s) (h : parse_one isM b at_ last = some r) : FE Go.Proofs.Tryz.prog 182 [.sl false 1 b.length (flat b), .int .i64 at_, .bool last, .fn c [] caps] s [.agg [.int .i64 r.1.Kind, .int .i64 r.1.From, .int .i64 r.1.To, .int .i64 r.1.V.Kind, .int .i64 r.1.V.N, .str r.1.V.S.b, .sl false 4 r.1.V.L.length (flat r.1.V.L), .str r.1.S.b], .int .i64 r.2] s :=
  parse_one_fn hok hv hc (⟨r, h, rfl, rfl⟩)
end Go.AB
end

section
set_option maxRecDepth 4000
namespace Go.AB
open Go
attribute [-go_sem] xwp_cons xwpK_eq xalt_cons xalt_nil
structure NilP where
instance : Enc NilP := ⟨1, fun _ => [.nilp], .mk, by decide, fun _ => rfl, fun _ => rfl⟩
theorem lit_z {X : Prop} {A K : List AV → Prop} (h : X → K [.bool false]) : X → ∃ rs, rsOK rs = true ∧ (False → A rs) ∧ K rs := fun x => ⟨[.bool false], rfl, False.elim, h x⟩
theorem lit_z2 : True := trivial
theorem lit_y {X B C : Prop} (h : X → B) : X → (False → C) ∧ B := fun x => ⟨False.elim, h x⟩
theorem lit_w {X B C : Prop} (h : X → B) : X → (True → B) ∧ (False → C) := fun x => ⟨fun _ => h x, False.elim⟩
theorem lit_w2 : True := trivial
theorem lit_y2 {X B : Prop} (h : X → B) : X → (True → B) := fun x _ => h x
@[go_sem] theorem nl_eq00 : ((0 : Int) == 0) = true := rfl
@[go_sem] theorem nl_ge : decide ((0 : Int) ≥ 64) = false := rfl
@[go_sem] theorem nl_le : decide ((64 : Int) ≤ 0) = false := rfl
def parse_whole (t_0 : lex_Token) : Option (Bool) :=
  some ((t_0.Kind == 1) && (t_0.V.Kind == 2))
def ir_parse_whole : IC :=
 (.seq (.reg none [i1 1 (.boxL 8 (.t 0)),
 i1 2 (.mov false (.c (.bool false)))] [1])
 (.seq (.reg none [i1 3 (.fieldAddr 0 (.t 1)),
 i1 4 (.load 1 false (.t 3)),
 i1 5 (.bin .eql (.t 4) (.c (.int .i64 1))),
 mv 6 5,
 i1g 7 6 true (.fieldAddr 3 (.t 1)),
 i1g 8 6 true (.fieldAddr 0 (.t 7)),
 i1g 9 6 true (.load 1 false (.t 8)),
 i1g 10 6 true (.bin .eql (.t 9) (.c (.int .i64 2))),
 i1 11 (.pick (.t 6) (.t 10) (.c (.bool false))),
 mv 2 11] [2])
 .ret))
def res_parse_whole : List IRes := [⟨2, true, none⟩]
theorem is_parse_whole : fnIs Go.Proofs.Tryz.prog 183 12 res_parse_whole ir_parse_whole = true := by kernel_rfl
theorem parse_whole_fn {t_0} {s : Store} {Q : List AV → Store → Prop}  : ok (parse_whole t_0) (fun r => Q [.bool r] s) → FN Go.Proofs.Tryz.prog 183 [.agg [.int .i64 t_0.Kind, .int .i64 t_0.From, .int .i64 t_0.To, .int .i64 t_0.V.Kind, .int .i64 t_0.V.N, .str t_0.V.S.b, .sl false 4 t_0.V.L.length (flat t_0.V.L), .str t_0.S.b]] s Q := by
  intro h
  refine FN.of (draw_ok mix) is_parse_whole rfl (Nat.le_of_ble_eq_true rfl) ?_
  revert h
  rw [ir_parse_whole, res_parse_whole, parse_whole]
  repeat' (first
    | with_reducible exact tt_to
    | with_reducible refine and_to ?_ ?_
    | with_reducible exact im_and
    | with_reducible refine im_to ?_
    | simp -implicitDefEqProofs only [go_sem, start, startE, resVs, resV, resC, allV, retK, Nat.reduceBEq, Nat.reduceAdd, Nat.reduceMul, Nat.reduceLeDiff, Nat.reduceEqDiff, Nat.reduceBNe, Nat.ble_eq, UInt8.reduceToNat, UInt32.reduceToNat])
theorem parse_whole_fe {t_0} {s : Store} {r : Bool}  (h : parse_whole t_0 = some r) : FE Go.Proofs.Tryz.prog 183 [.agg [.int .i64 t_0.Kind, .int .i64 t_0.From, .int .i64 t_0.To, .int .i64 t_0.V.Kind, .int .i64 t_0.V.N, .str t_0.V.S.b, .sl false 4 t_0.V.L.length (flat t_0.V.L), .str t_0.S.b]] s [.bool r] s := parse_whole_fn  ⟨r, h, rfl, rfl⟩
structure parse_stack where
  b_ : (List UInt8)
  at_ : Int
  last_ : Bool
def parse_stack_top (s_0 : parse_stack) : Option (NilP) :=
  some NilP.mk
def ir_parse_stack_top : IC :=
 (.seq (.reg none [i1 2 (.mov false (.c (.nilp)))] [0])
 (.seq (.seq (.reg none [mv 3 0,
 i1 4 (.nilCheck (.t 3)),
 i1 5 (.fieldAddr 3 (.t 4)),
 i1 6 (.loadR [.sl false 1 0 []] false (.t 5)),
 i1 7 (.len 0 (.t 6)),
 i1 8 (.bin .eql (.t 7) (.c (.int .i64 0)))] [0, 8])
 (.cond (.t 8) (.seq (.reg none [i1 2 (.mov false (.c (.nilp)))] [2])
 .ret)
 .skip))
 (.seq (.reg (some 13) [mv 9 0,
 i1 10 (.nilCheck (.t 9)),
 i1 11 (.fieldAddr 3 (.t 10)),
 i1 12 (.load 1 false (.t 11)),
 mv 13 0,
 i1 14 (.nilCheck (.t 13)),
 i1 15 (.fieldAddr 3 (.t 14)),
 i1 16 (.load 1 false (.t 15)),
 i1 17 (.len 0 (.t 16)),
 i1 18 (.bin .sub (.t 17) (.c (.int .i64 1))),
 i1 19 (.indexAddr [.nilp] (.t 12) (.t 18)),
 i1 20 (.load 1 false (.t 19)),
 mv 2 20] [2])
 .ret)))
def res_parse_stack_top : List IRes := [⟨2, true, none⟩]
theorem is_parse_stack_top : fnIs Go.Proofs.Tryz.prog 137 21 res_parse_stack_top ir_parse_stack_top = true := by kernel_rfl
theorem parse_stack_top_fn {s_0} {B0 : Nat} {s : Store} {Q : List AV → Store → Prop} (hB0 : s B0 = some (.cells [.sl false 1 s_0.b_.length (flat s_0.b_), .int .i64 s_0.at_, .bool s_0.last_, .sl true 1 0 []])) : ok (parse_stack_top s_0) (fun r => Q [.nilp] s) → FN Go.Proofs.Tryz.prog 137 [.ref B0 0] s Q := by
  have hS : s = (s.set B0 (.cells [.sl false 1 s_0.b_.length (flat s_0.b_), .int .i64 s_0.at_, .bool s_0.last_, .sl true 1 0 []])) := by simp only [set_eq' hB0]
  rw [hS]
  intro h
  refine FN.of (draw_ok mix) is_parse_stack_top rfl (Nat.le_of_ble_eq_true rfl) ?_
  revert h
  rw [ir_parse_stack_top, res_parse_stack_top, parse_stack_top]
  repeat' (first
    | with_reducible exact tt_to
    | with_reducible refine lit_t ?_
    | with_reducible refine lit_t2 ?_
    | with_reducible refine lit_w ?_
    | with_reducible refine lit_w2 ?_
    | with_reducible refine lit_y ?_
    | with_reducible refine lit_y2 ?_
    | with_reducible refine and_to ?_ ?_
    | with_reducible exact im_and
    | with_reducible refine im_to ?_
    | simp -implicitDefEqProofs only [go_sem, start, startE, resVs, resV, resC, allV, retK, Nat.reduceBEq, Nat.reduceAdd, Nat.reduceMul, Nat.reduceLeDiff, Nat.reduceEqDiff, Nat.reduceBNe, Nat.ble_eq, UInt8.reduceToNat, UInt32.reduceToNat])
theorem parse_stack_top_fe {s_0} {B0 : Nat} {s : Store} {r : NilP} (hB0 : s B0 = some (.cells [.sl false 1 s_0.b_.length (flat s_0.b_), .int .i64 s_0.at_, .bool s_0.last_, .sl true 1 0 []])) (h : parse_stack_top s_0 = some r) : FE Go.Proofs.Tryz.prog 137 [.ref B0 0] s [.nilp] s := parse_stack_top_fn hB0 ⟨r, h, rfl, rfl⟩
def parse_stack_next (s_0 : parse_stack) : Option (lex_Token × Int × parse_stack) :=
  bnd (lex_Next s_0.b_ s_0.at_ s_0.last_) fun r1 =>
  jn (
    if r1.2 == 0 then
      some (parse_stack.mk s_0.b_ r1.1.To s_0.last_)
    else
      some s_0) fun (o5 : parse_stack) =>
  some (r1.1, r1.2, o5)
def ir_parse_stack_next : IC :=
 (.seq (.reg none [i1 2 (.allocL [.int .i64 0, .int .i64 0, .int .i64 0, .int .i64 0, .int .i64 0, .str [], .sl true 4 0 [], .str []]),
 i1 3 (.mov false (.c (.int .i64 0)))] [0, 2])
 (.seq (.regT [4] 19 [mv 7 0,
 i1 8 (.nilCheck (.t 7)),
 i1 9 (.fieldAddr 0 (.t 8)),
 i1 10 (.loadR [.sl false 1 0 []] false (.t 9)),
 mv 11 0,
 i1 12 (.nilCheck (.t 11)),
 i1 13 (.fieldAddr 1 (.t 12)),
 i1 14 (.loadR [.int .i64 0] false (.t 13)),
 mv 15 0,
 i1 16 (.nilCheck (.t 15)),
 i1 17 (.fieldAddr 2 (.t 16)),
 i1 18 (.loadR [.bool false] false (.t 17)),
 i1 19 (.call 185 [(.t 10), (.t 14), (.t 18)]),
 i1 6 (.movT (.t 19)),
 i1 20 (.extract (.t 6) 0),
 i1 21 (.extract (.t 6) 1),
 i1 4 (.allocL [.int .i64 0, .int .i64 0, .int .i64 0, .int .i64 0, .int .i64 0, .str [], .sl true 4 0 [], .str []]),
 i0 (.store 8 (.t 4) (.t 20)),
 mv 5 21] [0, 2, 4, 5])
 (.join [(2, false), (4, false), (5, false)] (.seq (.reg none [mv 22 5,
 i1 23 (.bin .eql (.t 22) (.c (.int .i64 0)))] [0, 2, 4, 5, 23])
 (.cond (.t 23) (.reg none [mv 24 0,
 i1 25 (.fieldAddr 2 (.t 4)),
 i1 26 (.load 1 false (.t 25)),
 i1 27 (.nilCheck (.t 24)),
 i1 28 (.fieldAddr 1 (.t 27)),
 i0 (.store 1 (.t 28) (.t 26))] [2, 4, 5])
 .skip))
 (.seq (.reg none [i1 29 (.load 8 true (.t 4)),
 mv 30 5,
 i0 (.store 8 (.t 2) (.t 29)),
 mv 3 30] [2, 3])
 .ret))))
def res_parse_stack_next : List IRes := [⟨2, false, some (8, true)⟩, ⟨3, true, none⟩]
theorem is_parse_stack_next : fnIs Go.Proofs.Tryz.prog 135 31 res_parse_stack_next ir_parse_stack_next = true := by kernel_rfl
theorem parse_stack_next_fn {s_0} {B0 : Nat} {s : Store} {Q : List AV → Store → Prop} (hB0 : s B0 = some (.cells [.sl false 1 s_0.b_.length (flat s_0.b_), .int .i64 s_0.at_, .bool s_0.last_, .sl true 1 0 []])) : ok (parse_stack_next s_0) (fun r => Q [.agg [.int .i64 r.1.Kind, .int .i64 r.1.From, .int .i64 r.1.To, .int .i64 r.1.V.Kind, .int .i64 r.1.V.N, .str r.1.V.S.b, .sl false 4 r.1.V.L.length (flat r.1.V.L), .str r.1.S.b], .int .i64 r.2.1] (s.set B0 (.cells [.sl false 1 r.2.2.b_.length (flat r.2.2.b_), .int .i64 r.2.2.at_, .bool r.2.2.last_, .sl true 1 0 []]))) → FN Go.Proofs.Tryz.prog 135 [.ref B0 0] s Q := by
  have hS : s = (s.set B0 (.cells [.sl false 1 s_0.b_.length (flat s_0.b_), .int .i64 s_0.at_, .bool s_0.last_, .sl true 1 0 []])) := by simp only [set_eq' hB0]
  rw [hS]
  intro h
  refine FN.of (draw_ok mix) is_parse_stack_next rfl (Nat.le_of_ble_eq_true rfl) ?_
  revert h
  rw [ir_parse_stack_next, res_parse_stack_next, parse_stack_next]
  repeat' (first
    | with_reducible exact tt_to
    | ((with_reducible refine b_to ?_ ?_); exact rfl)
    | ((with_reducible refine n_to ?_ ?_); exact rfl)
    | with_reducible refine and_to ?_ ?_
    | with_reducible exact im_and
    | with_reducible refine im_to ?_
    | with_reducible refine call_to (fun _ (h : lex_Next s_0.b_ s_0.at_ s_0.last_ = some _) => lex_Next_fe h) (fun r1 => ?_)
    | with_reducible refine call_to_q (fun _ (h : lex_Next s_0.b_ s_0.at_ s_0.last_ = some _) => lex_Next_fe h) (fun _ => rfl) (fun r1 => ?_)
    | with_reducible refine call_to (fun _ (h : lex_Next s_0.b_ s_0.at_ s_0.last_ = some _) => (by refine FE_cast ?_ (lex_Next_fe h); simp -implicitDefEqProofs only [go_sem, start, startE, resVs, resV, resC, allV, retK, Nat.reduceBEq, Nat.reduceAdd, Nat.reduceMul, Nat.reduceLeDiff, Nat.reduceEqDiff, Nat.reduceBNe, Nat.ble_eq, UInt8.reduceToNat, UInt32.reduceToNat])) (fun r1 => ?_)
    | with_reducible refine call_to_q (fun _ (h : lex_Next s_0.b_ s_0.at_ s_0.last_ = some _) => (by refine FE_cast ?_ (lex_Next_fe h); simp -implicitDefEqProofs only [go_sem, start, startE, resVs, resV, resC, allV, retK, Nat.reduceBEq, Nat.reduceAdd, Nat.reduceMul, Nat.reduceLeDiff, Nat.reduceEqDiff, Nat.reduceBNe, Nat.ble_eq, UInt8.reduceToNat, UInt32.reduceToNat])) (fun _ => rfl) (fun r1 => ?_)
    | ((with_reducible refine join_to (fun (o5 : parse_stack) => ⟨[(2, .loc [.int .i64 0, .int .i64 0, .int .i64 0, .int .i64 0, .int .i64 0, .str (Str.mk []).b, .sl true 4 0 [], .str (Str.mk []).b]), (4, .loc [.int .i64 r1.1.Kind, .int .i64 r1.1.From, .int .i64 r1.1.To, .int .i64 r1.1.V.Kind, .int .i64 r1.1.V.N, .str r1.1.V.S.b, .sl false 4 r1.1.V.L.length (flat r1.1.V.L), .str r1.1.S.b]), (5, .int .i64 r1.2)], [], (s.set B0 (.cells [.sl false 1 o5.b_.length (flat o5.b_), .int .i64 o5.at_, .bool o5.last_, .sl true 1 0 []]))⟩) (fun J => ?_) ?_); rotate_left; rintro o5)
    | simp -implicitDefEqProofs only [go_sem, start, startE, resVs, resV, resC, allV, retK, Nat.reduceBEq, Nat.reduceAdd, Nat.reduceMul, Nat.reduceLeDiff, Nat.reduceEqDiff, Nat.reduceBNe, Nat.ble_eq, UInt8.reduceToNat, UInt32.reduceToNat])
def parse_more (e_0 : Int) : Option (Int) :=
  if e_0 == 6 then
    some e_0
  else
    some 0
def ir_parse_more : IC :=
 (.seq (.reg none [i1 2 (.mov false (.c (.int .i64 0)))] [0])
 (.seq (.seq (.reg none [mv 3 0,
 i1 4 (.bin .eql (.t 3) (.c (.int .i64 6)))] [0, 4])
 (.cond (.t 4) (.seq (.reg none [mv 5 0,
 mv 2 5] [2])
 .ret)
 .skip))
 (.seq (.reg none [i1 2 (.mov false (.c (.int .i64 0)))] [2])
 .ret)))
def res_parse_more : List IRes := [⟨2, true, none⟩]
theorem is_parse_more : fnIs Go.Proofs.Tryz.prog 267 6 res_parse_more ir_parse_more = true := by kernel_rfl
theorem parse_more_fn {e_0} {s : Store} {Q : List AV → Store → Prop}  : ok (parse_more e_0) (fun r => Q [.int .i64 r] s) → FN Go.Proofs.Tryz.prog 267 [.int .i64 e_0] s Q := by
  intro h
  refine FN.of (draw_ok mix) is_parse_more rfl (Nat.le_of_ble_eq_true rfl) ?_
  revert h
  rw [ir_parse_more, res_parse_more, parse_more]
  repeat' (first
    | with_reducible exact tt_to
    | with_reducible refine and_to ?_ ?_
    | with_reducible exact im_and
    | with_reducible refine im_to ?_
    | simp -implicitDefEqProofs only [go_sem, start, startE, resVs, resV, resC, allV, retK, Nat.reduceBEq, Nat.reduceAdd, Nat.reduceMul, Nat.reduceLeDiff, Nat.reduceEqDiff, Nat.reduceBNe, Nat.ble_eq, UInt8.reduceToNat, UInt32.reduceToNat])
theorem parse_more_fe {e_0} {s : Store} {r : Int}  (h : parse_more e_0 = some r) : FE Go.Proofs.Tryz.prog 267 [.int .i64 e_0] s [.int .i64 r] s := parse_more_fn  ⟨r, h, rfl, rfl⟩
def parse_stack_ref (s_0 : parse_stack) (v_1 : api_Value) : Option (api_Value × Int × parse_stack) :=
  bnd (lex_Next s_0.b_ s_0.at_ s_0.last_) fun r1 =>
  bnd (whenB (!(r1.2 != 0)) false (parse_whole r1.1)) fun r2 =>
  if (r1.2 != 0) || (!r2) then
    bnd (parse_more r1.2) fun r3 =>
    some (v_1, r3, s_0)
  else
    bnd (lex_Next s_0.b_ r1.1.To s_0.last_) fun r4 =>
    if ((r4.2 != 0) || (r4.1.Kind != 6)) || (!(r4.1.S.b == (Str.mk [82]).b)) then
      bnd (parse_more r4.2) fun r5 =>
      some (v_1, r5, s_0)
    else
      if ((decide (v_1.N < 1)) || (decide (v_1.N > 4096))) || (r1.1.V.N != 0) then
        some (v_1, 26, s_0)
      else
        some ((api_Value.mk 8 v_1.N (Str.mk []) ([] : List api_Value)), 0, (parse_stack.mk s_0.b_ r4.1.To s_0.last_))
def ir_parse_stack_ref : IC :=
 (.seq (.reg none [i1 3 (.boxL 4 (.t 1)),
 i1 4 (.allocL [.int .i64 0, .int .i64 0, .str [], .sl true 4 0 []]),
 i1 5 (.mov false (.c (.int .i64 0)))] [0, 3, 4])
 (.seq (.regT [6] 19 [mv 10 0,
 i1 11 (.nilCheck (.t 10)),
 i1 12 (.fieldAddr 0 (.t 11)),
 i1 13 (.loadR [.sl false 1 0 []] false (.t 12)),
 mv 14 0,
 i1 15 (.nilCheck (.t 14)),
 i1 16 (.fieldAddr 1 (.t 15)),
 i1 17 (.loadR [.int .i64 0] false (.t 16)),
 mv 18 0,
 i1 19 (.nilCheck (.t 18)),
 i1 20 (.fieldAddr 2 (.t 19)),
 i1 21 (.loadR [.bool false] false (.t 20)),
 i1 22 (.call 185 [(.t 13), (.t 17), (.t 21)]),
 i1 9 (.movT (.t 22)),
 i1 23 (.extract (.t 9) 0),
 i1 24 (.extract (.t 9) 1),
 i1 6 (.allocL [.int .i64 0, .int .i64 0, .int .i64 0, .int .i64 0, .int .i64 0, .str [], .sl true 4 0 [], .str []]),
 i0 (.store 8 (.t 6) (.t 23)),
 mv 7 24] [0, 3, 4, 6, 7])
 (.seq (.seq (.reg (some 5) [mv 25 7,
 i1 26 (.bin .neq (.t 25) (.c (.int .i64 0))),
 mv 27 26,
 i1g 28 27 false (.load 8 true (.t 6)),
 i1g 29 27 false (.call 183 [(.t 28)]),
 i1g 30 27 false (.un .not (.t 29)),
 i1 31 (.pick (.t 27) (.c (.bool true)) (.t 30))] [0, 3, 4, 6, 7, 31])
 (.cond (.t 31) (.seq (.reg (some 3) [i1 32 (.load 4 true (.t 3)),
 mv 33 7,
 i1 34 (.call 267 [(.t 33)]),
 i0 (.store 4 (.t 4) (.t 32)),
 mv 5 34] [4, 5])
 .ret)
 .skip))
 (.seq (.regT [8] 17 [mv 36 0,
 i1 37 (.nilCheck (.t 36)),
 i1 38 (.fieldAddr 0 (.t 37)),
 i1 39 (.loadR [.sl false 1 0 []] false (.t 38)),
 i1 40 (.fieldAddr 2 (.t 6)),
 i1 41 (.load 1 false (.t 40)),
 mv 42 0,
 i1 43 (.nilCheck (.t 42)),
 i1 44 (.fieldAddr 2 (.t 43)),
 i1 45 (.loadR [.bool false] false (.t 44)),
 i1 46 (.call 185 [(.t 39), (.t 41), (.t 45)]),
 i1 35 (.movT (.t 46)),
 i1 47 (.extract (.t 35) 0),
 i1 48 (.extract (.t 35) 1),
 i1 8 (.allocL [.int .i64 0, .int .i64 0, .int .i64 0, .int .i64 0, .int .i64 0, .str [], .sl true 4 0 [], .str []]),
 i0 (.store 8 (.t 8) (.t 47)),
 mv 7 48] [0, 3, 4, 6, 7, 8])
 (.seq (.seq (.reg none [mv 49 7,
 i1 50 (.bin .neq (.t 49) (.c (.int .i64 0))),
 mv 51 50,
 i1g 52 51 false (.fieldAddr 0 (.t 8)),
 i1g 53 51 false (.load 1 false (.t 52)),
 i1g 54 51 false (.bin .neq (.t 53) (.c (.int .i64 6))),
 i1 55 (.pick (.t 51) (.c (.bool true)) (.t 54)),
 mv 56 55,
 i1g 57 56 false (.fieldAddr 7 (.t 8)),
 i1g 58 56 false (.load 1 false (.t 57)),
 i1g 59 56 false (.bin .neq (.t 58) (.c (.str [82]))),
 i1 60 (.pick (.t 56) (.c (.bool true)) (.t 59))] [0, 3, 4, 6, 7, 8, 60])
 (.cond (.t 60) (.seq (.reg (some 3) [i1 61 (.load 4 true (.t 3)),
 mv 62 7,
 i1 63 (.call 267 [(.t 62)]),
 i0 (.store 4 (.t 4) (.t 61)),
 mv 5 63] [4, 5])
 .ret)
 .skip))
 (.seq (.seq (.reg none [i1 64 (.fieldAddr 1 (.t 3)),
 i1 65 (.load 1 false (.t 64)),
 i1 66 (.bin .lss (.t 65) (.c (.int .i64 1))),
 mv 67 66,
 i1g 68 67 false (.fieldAddr 1 (.t 3)),
 i1g 69 67 false (.load 1 false (.t 68)),
 i1g 70 67 false (.bin .gtr (.t 69) (.c (.int .i64 4096))),
 i1 71 (.pick (.t 67) (.c (.bool true)) (.t 70)),
 mv 72 71,
 i1g 73 72 false (.fieldAddr 3 (.t 6)),
 i1g 74 72 false (.fieldAddr 1 (.t 73)),
 i1g 75 72 false (.load 1 false (.t 74)),
 i1g 76 72 false (.bin .neq (.t 75) (.c (.int .i64 0))),
 i1 77 (.pick (.t 72) (.c (.bool true)) (.t 76))] [0, 3, 4, 8, 77])
 (.cond (.t 77) (.seq (.reg none [i1 78 (.load 4 true (.t 3)),
 i0 (.store 4 (.t 4) (.t 78)),
 i1 5 (.mov false (.c (.int .i64 26)))] [4, 5])
 .ret)
 .skip))
 (.seq (.reg none [mv 79 0,
 i1 80 (.fieldAddr 2 (.t 8)),
 i1 81 (.load 1 false (.t 80)),
 i1 82 (.nilCheck (.t 79)),
 i1 83 (.fieldAddr 1 (.t 82)),
 i0 (.store 1 (.t 83) (.t 81))] [3, 4])
 (.seq (.reg none [i1 84 (.fieldAddr 1 (.t 3)),
 i1 85 (.load 1 false (.t 84)),
 i1 86 (.build [.int .i64 0, .int .i64 0, .str [], .sl true 4 0 []] [(0, 1, (.c (.int .i64 8))), (1, 1, (.t 85))]),
 i0 (.store 4 (.t 4) (.t 86)),
 i1 5 (.mov false (.c (.int .i64 0)))] [4, 5])
 .ret))))))))
def res_parse_stack_ref : List IRes := [⟨4, false, some (4, true)⟩, ⟨5, true, none⟩]
theorem is_parse_stack_ref : fnIs Go.Proofs.Tryz.prog 230 87 res_parse_stack_ref ir_parse_stack_ref = true := by kernel_rfl
theorem parse_stack_ref_fn {s_0 v_1} {B0 : Nat} {s : Store} {Q : List AV → Store → Prop} (hB0 : s B0 = some (.cells [.sl false 1 s_0.b_.length (flat s_0.b_), .int .i64 s_0.at_, .bool s_0.last_, .sl true 1 0 []])) : ok (parse_stack_ref s_0 v_1) (fun r => Q [.agg [.int .i64 r.1.Kind, .int .i64 r.1.N, .str r.1.S.b, .sl false 4 r.1.L.length (flat r.1.L)], .int .i64 r.2.1] (s.set B0 (.cells [.sl false 1 r.2.2.b_.length (flat r.2.2.b_), .int .i64 r.2.2.at_, .bool r.2.2.last_, .sl true 1 0 []]))) → FN Go.Proofs.Tryz.prog 230 [.ref B0 0, .agg [.int .i64 v_1.Kind, .int .i64 v_1.N, .str v_1.S.b, .sl false 4 v_1.L.length (flat v_1.L)]] s Q := by
  have hS : s = (s.set B0 (.cells [.sl false 1 s_0.b_.length (flat s_0.b_), .int .i64 s_0.at_, .bool s_0.last_, .sl true 1 0 []])) := by simp only [set_eq' hB0]
  rw [hS]
  intro h
  refine FN.of (draw_ok mix) is_parse_stack_ref rfl (Nat.le_of_ble_eq_true rfl) ?_
  revert h
  rw [ir_parse_stack_ref, res_parse_stack_ref, parse_stack_ref]
  repeat' (first
    | with_reducible exact tt_to
    | ((with_reducible refine b_to ?_ ?_); exact rfl)
    | ((with_reducible refine n_to ?_ ?_); exact rfl)
    | with_reducible refine and_to ?_ ?_
    | with_reducible exact im_and
    | with_reducible refine im_to ?_
    | with_reducible refine call_to (fun _ (h : lex_Next s_0.b_ s_0.at_ s_0.last_ = some _) => lex_Next_fe h) (fun r1 => ?_)
    | with_reducible refine call_to_q (fun _ (h : lex_Next s_0.b_ s_0.at_ s_0.last_ = some _) => lex_Next_fe h) (fun _ => rfl) (fun r1 => ?_)
    | with_reducible refine call_to (fun _ (h : lex_Next s_0.b_ s_0.at_ s_0.last_ = some _) => (by refine FE_cast ?_ (lex_Next_fe h); simp -implicitDefEqProofs only [go_sem, start, startE, resVs, resV, resC, allV, retK, Nat.reduceBEq, Nat.reduceAdd, Nat.reduceMul, Nat.reduceLeDiff, Nat.reduceEqDiff, Nat.reduceBNe, Nat.ble_eq, UInt8.reduceToNat, UInt32.reduceToNat])) (fun r1 => ?_)
    | with_reducible refine call_to_q (fun _ (h : lex_Next s_0.b_ s_0.at_ s_0.last_ = some _) => (by refine FE_cast ?_ (lex_Next_fe h); simp -implicitDefEqProofs only [go_sem, start, startE, resVs, resV, resC, allV, retK, Nat.reduceBEq, Nat.reduceAdd, Nat.reduceMul, Nat.reduceLeDiff, Nat.reduceEqDiff, Nat.reduceBNe, Nat.ble_eq, UInt8.reduceToNat, UInt32.reduceToNat])) (fun _ => rfl) (fun r1 => ?_)
    | with_reducible refine call_to_g rfl (fun _ (h : parse_whole r1.1 = some _) => parse_whole_fe h) (fun _ => rfl) (fun r2 => ?_)
    | with_reducible refine call_to_g rfl (fun _ (h : parse_whole r1.1 = some _) => (by refine FE_cast ?_ (parse_whole_fe h); simp -implicitDefEqProofs only [go_sem, start, startE, resVs, resV, resC, allV, retK, Nat.reduceBEq, Nat.reduceAdd, Nat.reduceMul, Nat.reduceLeDiff, Nat.reduceEqDiff, Nat.reduceBNe, Nat.ble_eq, UInt8.reduceToNat, UInt32.reduceToNat])) (fun _ => rfl) (fun r2 => ?_)
    | with_reducible refine call_to (fun _ (h : parse_more r1.2 = some _) => parse_more_fe h) (fun r3 => ?_)
    | with_reducible refine call_to_q (fun _ (h : parse_more r1.2 = some _) => parse_more_fe h) (fun _ => rfl) (fun r3 => ?_)
    | with_reducible refine call_to (fun _ (h : parse_more r1.2 = some _) => (by refine FE_cast ?_ (parse_more_fe h); simp -implicitDefEqProofs only [go_sem, start, startE, resVs, resV, resC, allV, retK, Nat.reduceBEq, Nat.reduceAdd, Nat.reduceMul, Nat.reduceLeDiff, Nat.reduceEqDiff, Nat.reduceBNe, Nat.ble_eq, UInt8.reduceToNat, UInt32.reduceToNat])) (fun r3 => ?_)
    | with_reducible refine call_to_q (fun _ (h : parse_more r1.2 = some _) => (by refine FE_cast ?_ (parse_more_fe h); simp -implicitDefEqProofs only [go_sem, start, startE, resVs, resV, resC, allV, retK, Nat.reduceBEq, Nat.reduceAdd, Nat.reduceMul, Nat.reduceLeDiff, Nat.reduceEqDiff, Nat.reduceBNe, Nat.ble_eq, UInt8.reduceToNat, UInt32.reduceToNat])) (fun _ => rfl) (fun r3 => ?_)
    | with_reducible refine call_to (fun _ (h : lex_Next s_0.b_ r1.1.To s_0.last_ = some _) => lex_Next_fe h) (fun r4 => ?_)
    | with_reducible refine call_to_q (fun _ (h : lex_Next s_0.b_ r1.1.To s_0.last_ = some _) => lex_Next_fe h) (fun _ => rfl) (fun r4 => ?_)
    | with_reducible refine call_to (fun _ (h : lex_Next s_0.b_ r1.1.To s_0.last_ = some _) => (by refine FE_cast ?_ (lex_Next_fe h); simp -implicitDefEqProofs only [go_sem, start, startE, resVs, resV, resC, allV, retK, Nat.reduceBEq, Nat.reduceAdd, Nat.reduceMul, Nat.reduceLeDiff, Nat.reduceEqDiff, Nat.reduceBNe, Nat.ble_eq, UInt8.reduceToNat, UInt32.reduceToNat])) (fun r4 => ?_)
    | with_reducible refine call_to_q (fun _ (h : lex_Next s_0.b_ r1.1.To s_0.last_ = some _) => (by refine FE_cast ?_ (lex_Next_fe h); simp -implicitDefEqProofs only [go_sem, start, startE, resVs, resV, resC, allV, retK, Nat.reduceBEq, Nat.reduceAdd, Nat.reduceMul, Nat.reduceLeDiff, Nat.reduceEqDiff, Nat.reduceBNe, Nat.ble_eq, UInt8.reduceToNat, UInt32.reduceToNat])) (fun _ => rfl) (fun r4 => ?_)
    | with_reducible refine call_to (fun _ (h : parse_more r4.2 = some _) => parse_more_fe h) (fun r5 => ?_)
    | with_reducible refine call_to_q (fun _ (h : parse_more r4.2 = some _) => parse_more_fe h) (fun _ => rfl) (fun r5 => ?_)
    | with_reducible refine call_to (fun _ (h : parse_more r4.2 = some _) => (by refine FE_cast ?_ (parse_more_fe h); simp -implicitDefEqProofs only [go_sem, start, startE, resVs, resV, resC, allV, retK, Nat.reduceBEq, Nat.reduceAdd, Nat.reduceMul, Nat.reduceLeDiff, Nat.reduceEqDiff, Nat.reduceBNe, Nat.ble_eq, UInt8.reduceToNat, UInt32.reduceToNat])) (fun r5 => ?_)
    | with_reducible refine call_to_q (fun _ (h : parse_more r4.2 = some _) => (by refine FE_cast ?_ (parse_more_fe h); simp -implicitDefEqProofs only [go_sem, start, startE, resVs, resV, resC, allV, retK, Nat.reduceBEq, Nat.reduceAdd, Nat.reduceMul, Nat.reduceLeDiff, Nat.reduceEqDiff, Nat.reduceBNe, Nat.ble_eq, UInt8.reduceToNat, UInt32.reduceToNat])) (fun _ => rfl) (fun r5 => ?_)
    | simp -implicitDefEqProofs only [go_sem, start, startE, resVs, resV, resC, allV, retK, Nat.reduceBEq, Nat.reduceAdd, Nat.reduceMul, Nat.reduceLeDiff, Nat.reduceEqDiff, Nat.reduceBNe, Nat.ble_eq, UInt8.reduceToNat, UInt32.reduceToNat])
def parse_word (w_0 : Str) : Option (api_Value × Int) :=
  if w_0.b == (Str.mk [116, 114, 117, 101]).b then
    some ((api_Value.mk 1 1 (Str.mk []) ([] : List api_Value)), 0)
  else
    if w_0.b == (Str.mk [102, 97, 108, 115, 101]).b then
      some ((api_Value.mk 1 0 (Str.mk []) ([] : List api_Value)), 0)
    else
      if w_0.b == (Str.mk [110, 117, 108, 108]).b then
        some ((api_Value.mk 0 0 (Str.mk []) ([] : List api_Value)), 0)
      else
        some ((api_Value.mk 0 0 (Str.mk []) ([] : List api_Value)), 11)
def ir_parse_word : IC :=
 (.seq (.reg none [i1 2 (.allocL [.int .i64 0, .int .i64 0, .str [], .sl true 4 0 []]),
 i1 3 (.mov false (.c (.int .i64 0)))] [0, 2])
 (.seq (.seq (.reg none [mv 4 0] [2, 4])
 (.block 0 (.seq (.reg none [i1 6 (.bin .eql (.t 4) (.c (.str [116, 114, 117, 101]))),
 mv 5 6] [2, 4, 5])
 (.cond (.t 5) (.seq (.reg none [i1 7 (.build [.int .i64 0, .int .i64 0, .str [], .sl true 4 0 []] [(0, 1, (.c (.int .i64 1))), (1, 1, (.c (.int .i64 1)))]),
 i0 (.store 4 (.t 2) (.t 7)),
 i1 3 (.mov false (.c (.int .i64 0)))] [2, 3])
 .ret)
 (.seq (.reg none [i1 9 (.bin .eql (.t 4) (.c (.str [102, 97, 108, 115, 101]))),
 mv 8 9] [2, 4, 8])
 (.cond (.t 8) (.seq (.reg none [i1 10 (.build [.int .i64 0, .int .i64 0, .str [], .sl true 4 0 []] [(0, 1, (.c (.int .i64 1)))]),
 i0 (.store 4 (.t 2) (.t 10)),
 i1 3 (.mov false (.c (.int .i64 0)))] [2, 3])
 .ret)
 (.seq (.reg none [i1 12 (.bin .eql (.t 4) (.c (.str [110, 117, 108, 108]))),
 mv 11 12] [2, 11])
 (.cond (.t 11) (.seq (.reg none [i1 13 (.build [.int .i64 0, .int .i64 0, .str [], .sl true 4 0 []] []),
 i0 (.store 4 (.t 2) (.t 13)),
 i1 3 (.mov false (.c (.int .i64 0)))] [2, 3])
 .ret)
 .skip))))))))
 (.seq (.reg none [i1 14 (.build [.int .i64 0, .int .i64 0, .str [], .sl true 4 0 []] []),
 i0 (.store 4 (.t 2) (.t 14)),
 i1 3 (.mov false (.c (.int .i64 11)))] [2, 3])
 .ret)))
def res_parse_word : List IRes := [⟨2, false, some (4, true)⟩, ⟨3, true, none⟩]
theorem is_parse_word : fnIs Go.Proofs.Tryz.prog 229 15 res_parse_word ir_parse_word = true := by kernel_rfl
theorem parse_word_fn {w_0} {s : Store} {Q : List AV → Store → Prop}  : ok (parse_word w_0) (fun r => Q [.agg [.int .i64 r.1.Kind, .int .i64 r.1.N, .str r.1.S.b, .sl false 4 r.1.L.length (flat r.1.L)], .int .i64 r.2] s) → FN Go.Proofs.Tryz.prog 229 [.str w_0.b] s Q := by
  intro h
  refine FN.of (draw_ok mix) is_parse_word rfl (Nat.le_of_ble_eq_true rfl) ?_
  revert h
  rw [ir_parse_word, res_parse_word, parse_word]
  repeat' (first
    | with_reducible exact tt_to
    | with_reducible refine and_to ?_ ?_
    | with_reducible exact im_and
    | with_reducible refine im_to ?_
    | simp -implicitDefEqProofs only [go_sem, start, startE, resVs, resV, resC, allV, retK, Nat.reduceBEq, Nat.reduceAdd, Nat.reduceMul, Nat.reduceLeDiff, Nat.reduceEqDiff, Nat.reduceBNe, Nat.ble_eq, UInt8.reduceToNat, UInt32.reduceToNat])
theorem parse_word_fe {w_0} {s : Store} {r : api_Value × Int}  (h : parse_word w_0 = some r) : FE Go.Proofs.Tryz.prog 229 [.str w_0.b] s [.agg [.int .i64 r.1.Kind, .int .i64 r.1.N, .str r.1.S.b, .sl false 4 r.1.L.length (flat r.1.L)], .int .i64 r.2] s := parse_word_fn  ⟨r, h, rfl, rfl⟩
def parse_stack_single (s_0 : parse_stack) (t_1 : lex_Token) : Option (api_Value × Int × parse_stack) :=
  bnd (parse_stack_top s_0) fun r1 =>
  if t_1.Kind == 6 then
    bnd (parse_word t_1.S) fun r2 =>
    some (r2.1, r2.2, s_0)
  else
    bnd (parse_whole t_1) fun r3 =>
    if r3 then
      bnd (parse_stack_ref s_0 t_1.V) fun r4 =>
      some (r4.1, r4.2.1, r4.2.2)
    else
      some (t_1.V, 0, s_0)
def ir_parse_stack_single : IC :=
 (.seq (.reg none [i1 3 (.boxL 8 (.t 1)),
 i1 4 (.allocL [.int .i64 0, .int .i64 0, .str [], .sl true 4 0 []]),
 i1 5 (.mov false (.c (.int .i64 0)))] [0, 3, 4])
 (.seq (.seq (.reg none [mv 7 0,
 i1 8 (.call 137 [(.t 7)]),
 mv 6 8] [0, 3, 4, 6])
 (.seq (.reg (some 5) [mv 9 6,
 i1 10 (.eqP true (.t 9) (.c (.nilp))),
 mv 11 10,
 mvg 12 6 11 true,
 i1g 13 11 true (.call 227 [(.t 12)]),
 i1 14 (.pick (.t 11) (.t 13) (.c (.bool false))),
 mv 15 14,
 i1g 16 15 true (.fieldAddr 0 (.t 3)),
 i1g 17 15 true (.load 1 false (.t 16)),
 i1g 18 15 true (.bin .neq (.t 17) (.c (.int .i64 1))),
 mvg 19 18 15 true,
 i1g 20 19 false (.fieldAddr 3 (.t 3)),
 i1g 21 19 false (.fieldAddr 0 (.t 20)),
 i1g 22 19 false (.load 1 false (.t 21)),
 i1g 23 19 false (.bin .neq (.t 22) (.c (.int .i64 5))),
 i1g 24 15 true (.pick (.t 19) (.c (.bool true)) (.t 23)),
 i1 25 (.pick (.t 15) (.t 24) (.c (.bool false)))] [0, 3, 4, 25])
 (.cond (.t 25) (.seq (.reg none [i1 26 (.build [.int .i64 0, .int .i64 0, .str [], .sl true 4 0 []] []),
 i0 (.store 4 (.t 4) (.t 26)),
 i1 5 (.mov false (.c (.int .i64 11)))] [4, 5])
 .ret)
 .skip)))
 (.seq (.block 0 (.seq (.reg none [i1 28 (.fieldAddr 0 (.t 3)),
 i1 29 (.load 1 false (.t 28)),
 i1 30 (.bin .eql (.t 29) (.c (.int .i64 6))),
 mv 27 30] [0, 3, 4, 27])
 (.cond (.t 27) (.seq (.reg none [i1 31 (.fieldAddr 7 (.t 3)),
 i1 32 (.load 1 false (.t 31)),
 i1 33 (.call 229 [(.t 32)]),
 i1 34 (.extract (.t 33) 0),
 i1 35 (.extract (.t 33) 1),
 i0 (.store 4 (.t 4) (.t 34)),
 mv 5 35] [4, 5])
 .ret)
 (.seq (.reg none [i1 37 (.load 8 true (.t 3)),
 i1 38 (.call 183 [(.t 37)]),
 mv 36 38] [0, 3, 4, 36])
 (.cond (.t 36) (.seq (.reg none [mv 39 0,
 i1 40 (.fieldAddr 3 (.t 3)),
 i1 41 (.load 4 true (.t 40)),
 i1 42 (.call 230 [(.t 39), (.t 41)]),
 i1 43 (.extract (.t 42) 0),
 i1 44 (.extract (.t 42) 1),
 i0 (.store 4 (.t 4) (.t 43)),
 mv 5 44] [4, 5])
 .ret)
 .skip)))))
 (.seq (.reg none [i1 45 (.fieldAddr 3 (.t 3)),
 i1 46 (.load 4 true (.t 45)),
 i0 (.store 4 (.t 4) (.t 46)),
 i1 5 (.mov false (.c (.int .i64 0)))] [4, 5])
 .ret))))
def res_parse_stack_single : List IRes := [⟨4, false, some (4, true)⟩, ⟨5, true, none⟩]
theorem is_parse_stack_single : fnIs Go.Proofs.Tryz.prog 188 47 res_parse_stack_single ir_parse_stack_single = true := by kernel_rfl
theorem parse_stack_single_fn {s_0 t_1} {B0 : Nat} {s : Store} {Q : List AV → Store → Prop} (hB0 : s B0 = some (.cells [.sl false 1 s_0.b_.length (flat s_0.b_), .int .i64 s_0.at_, .bool s_0.last_, .sl true 1 0 []])) : ok (parse_stack_single s_0 t_1) (fun r => Q [.agg [.int .i64 r.1.Kind, .int .i64 r.1.N, .str r.1.S.b, .sl false 4 r.1.L.length (flat r.1.L)], .int .i64 r.2.1] (s.set B0 (.cells [.sl false 1 r.2.2.b_.length (flat r.2.2.b_), .int .i64 r.2.2.at_, .bool r.2.2.last_, .sl true 1 0 []]))) → FN Go.Proofs.Tryz.prog 188 [.ref B0 0, .agg [.int .i64 t_1.Kind, .int .i64 t_1.From, .int .i64 t_1.To, .int .i64 t_1.V.Kind, .int .i64 t_1.V.N, .str t_1.V.S.b, .sl false 4 t_1.V.L.length (flat t_1.V.L), .str t_1.S.b]] s Q := by
  have hS : s = (s.set B0 (.cells [.sl false 1 s_0.b_.length (flat s_0.b_), .int .i64 s_0.at_, .bool s_0.last_, .sl true 1 0 []])) := by simp only [set_eq' hB0]
  rw [hS]
  intro h
  refine FN.of (draw_ok mix) is_parse_stack_single rfl (Nat.le_of_ble_eq_true rfl) ?_
  revert h
  rw [ir_parse_stack_single, res_parse_stack_single, parse_stack_single]
  repeat' (first
    | with_reducible exact tt_to
    | with_reducible refine lit_f ?_
    | with_reducible refine lit_f2 ?_
    | with_reducible refine lit_w ?_
    | with_reducible refine lit_w2 ?_
    | with_reducible refine lit_y ?_
    | with_reducible refine lit_y2 ?_
    | with_reducible refine lit_z ?_
    | with_reducible refine lit_z2 ?_
    | with_reducible refine and_to ?_ ?_
    | with_reducible exact im_and
    | with_reducible refine im_to ?_
    | with_reducible refine call_to (fun _ (h : parse_stack_top s_0 = some _) => parse_stack_top_fe (B0 := B0) (by simp -implicitDefEqProofs only [go_sem, start, startE, resVs, resV, resC, allV, retK, Nat.reduceBEq, Nat.reduceAdd, Nat.reduceMul, Nat.reduceLeDiff, Nat.reduceEqDiff, Nat.reduceBNe, Nat.ble_eq, UInt8.reduceToNat, UInt32.reduceToNat] <;> simp only [encM_nil])   h) (fun r1 => ?_)
    | with_reducible refine call_to_q (fun _ (h : parse_stack_top s_0 = some _) => parse_stack_top_fe (B0 := B0) (by simp -implicitDefEqProofs only [go_sem, start, startE, resVs, resV, resC, allV, retK, Nat.reduceBEq, Nat.reduceAdd, Nat.reduceMul, Nat.reduceLeDiff, Nat.reduceEqDiff, Nat.reduceBNe, Nat.ble_eq, UInt8.reduceToNat, UInt32.reduceToNat] <;> simp only [encM_nil])   h) (fun _ => rfl) (fun r1 => ?_)
    | with_reducible refine call_to (fun _ (h : parse_word t_1.S = some _) => parse_word_fe h) (fun r2 => ?_)
    | with_reducible refine call_to_q (fun _ (h : parse_word t_1.S = some _) => parse_word_fe h) (fun _ => rfl) (fun r2 => ?_)
    | with_reducible refine call_to (fun _ (h : parse_word t_1.S = some _) => (by refine FE_cast ?_ (parse_word_fe h); simp -implicitDefEqProofs only [go_sem, start, startE, resVs, resV, resC, allV, retK, Nat.reduceBEq, Nat.reduceAdd, Nat.reduceMul, Nat.reduceLeDiff, Nat.reduceEqDiff, Nat.reduceBNe, Nat.ble_eq, UInt8.reduceToNat, UInt32.reduceToNat])) (fun r2 => ?_)
    | with_reducible refine call_to_q (fun _ (h : parse_word t_1.S = some _) => (by refine FE_cast ?_ (parse_word_fe h); simp -implicitDefEqProofs only [go_sem, start, startE, resVs, resV, resC, allV, retK, Nat.reduceBEq, Nat.reduceAdd, Nat.reduceMul, Nat.reduceLeDiff, Nat.reduceEqDiff, Nat.reduceBNe, Nat.ble_eq, UInt8.reduceToNat, UInt32.reduceToNat])) (fun _ => rfl) (fun r2 => ?_)
    | with_reducible refine call_to (fun _ (h : parse_whole t_1 = some _) => parse_whole_fe h) (fun r3 => ?_)
    | with_reducible refine call_to_q (fun _ (h : parse_whole t_1 = some _) => parse_whole_fe h) (fun _ => rfl) (fun r3 => ?_)
    | with_reducible refine call_to (fun _ (h : parse_whole t_1 = some _) => (by refine FE_cast ?_ (parse_whole_fe h); simp -implicitDefEqProofs only [go_sem, start, startE, resVs, resV, resC, allV, retK, Nat.reduceBEq, Nat.reduceAdd, Nat.reduceMul, Nat.reduceLeDiff, Nat.reduceEqDiff, Nat.reduceBNe, Nat.ble_eq, UInt8.reduceToNat, UInt32.reduceToNat])) (fun r3 => ?_)
    | with_reducible refine call_to_q (fun _ (h : parse_whole t_1 = some _) => (by refine FE_cast ?_ (parse_whole_fe h); simp -implicitDefEqProofs only [go_sem, start, startE, resVs, resV, resC, allV, retK, Nat.reduceBEq, Nat.reduceAdd, Nat.reduceMul, Nat.reduceLeDiff, Nat.reduceEqDiff, Nat.reduceBNe, Nat.ble_eq, UInt8.reduceToNat, UInt32.reduceToNat])) (fun _ => rfl) (fun r3 => ?_)
    | with_reducible refine fun hh => parse_stack_ref_fn (B0 := B0) (by simp -implicitDefEqProofs only [go_sem, start, startE, resVs, resV, resC, allV, retK, Nat.reduceBEq, Nat.reduceAdd, Nat.reduceMul, Nat.reduceLeDiff, Nat.reduceEqDiff, Nat.reduceBNe, Nat.ble_eq, UInt8.reduceToNat, UInt32.reduceToNat] <;> simp only [encM_nil])   (ok_mono (show ok (parse_stack_ref s_0 t_1.V) _ from hh) fun r4 => ?_)
    | with_reducible refine fun hh => FN_cast (by simp -implicitDefEqProofs only [go_sem, start, startE, resVs, resV, resC, allV, retK, Nat.reduceBEq, Nat.reduceAdd, Nat.reduceMul, Nat.reduceLeDiff, Nat.reduceEqDiff, Nat.reduceBNe, Nat.ble_eq, UInt8.reduceToNat, UInt32.reduceToNat]) (parse_stack_ref_fn (B0 := B0) (by simp -implicitDefEqProofs only [go_sem, start, startE, resVs, resV, resC, allV, retK, Nat.reduceBEq, Nat.reduceAdd, Nat.reduceMul, Nat.reduceLeDiff, Nat.reduceEqDiff, Nat.reduceBNe, Nat.ble_eq, UInt8.reduceToNat, UInt32.reduceToNat] <;> simp only [encM_nil])   (ok_mono (show ok (parse_stack_ref s_0 t_1.V) _ from hh) fun r4 => ?_))
    | simp -implicitDefEqProofs only [go_sem, start, startE, resVs, resV, resC, allV, retK, Nat.reduceBEq, Nat.reduceAdd, Nat.reduceMul, Nat.reduceLeDiff, Nat.reduceEqDiff, Nat.reduceBNe, Nat.ble_eq, UInt8.reduceToNat, UInt32.reduceToNat])
def parse_stack_begin (s_0 : parse_stack) (x_1 : Bool) : Option (Int × parse_stack) := none
theorem parse_stack_begin_fn {s_0 : parse_stack} {x_1 : Bool} {B0 : Nat} {s : Store} {Q : List AV → Store → Prop} (hB0 : s B0 = some (.cells [.sl false 1 s_0.b_.length (flat s_0.b_), .int .i64 s_0.at_, .bool s_0.last_, .sl true 1 0 []])) : ok (parse_stack_begin s_0 x_1) (fun r => Q [.int .i64 r.1] (s.set B0 (.cells [.sl false 1 r.2.b_.length (flat r.2.b_), .int .i64 r.2.at_, .bool r.2.last_, .sl true 1 0 []]))) → FN Go.Proofs.Tryz.prog 186 [.ref B0 0, .bool x_1] s Q := fun ⟨_, h, _⟩ => by cases h
def parse_stack_end (s_0 : parse_stack) (x_1 : Bool) : Option (api_Value × Int × parse_stack) := none
theorem parse_stack_end_fn {s_0 : parse_stack} {x_1 : Bool} {B0 : Nat} {s : Store} {Q : List AV → Store → Prop} (hB0 : s B0 = some (.cells [.sl false 1 s_0.b_.length (flat s_0.b_), .int .i64 s_0.at_, .bool s_0.last_, .sl true 1 0 []])) : ok (parse_stack_end s_0 x_1) (fun r => Q [.agg [.int .i64 r.1.Kind, .int .i64 r.1.N, .str r.1.S.b, .sl false 4 r.1.L.length (flat r.1.L)], .int .i64 r.2.1] (s.set B0 (.cells [.sl false 1 r.2.2.b_.length (flat r.2.2.b_), .int .i64 r.2.2.at_, .bool r.2.2.last_, .sl true 1 0 []]))) → FN Go.Proofs.Tryz.prog 187 [.ref B0 0, .bool x_1] s Q := fun ⟨_, h, _⟩ => by cases h
def parse_stack_step (s_0 : parse_stack) (t_1 : lex_Token) : Option (api_Value × Bool × Int × parse_stack) :=
  jnS (
    if t_1.Kind == 0 then
      some (.inr (false, (10 : Int), s_0))
    else
      jn (
        if t_1.Kind == 2 then
          some (t_1.Kind == 2)
        else
          some (t_1.Kind == 4)) fun (t13 : Bool) =>
      if t13 then
        bnd (parse_stack_begin s_0 (t_1.Kind == 4)) fun r15 =>
        some (.inr (false, r15.1, r15.2))
      else
        jn (
          if t_1.Kind == 3 then
            some (t_1.Kind == 3)
          else
            some (t_1.Kind == 5)) fun (t19 : Bool) =>
        if t19 then
          bnd (parse_stack_end s_0 (t_1.Kind == 5)) fun r21 =>
          some (.inl (r21.1, r21.2.1, r21.2.2))
        else
          bnd (parse_stack_single s_0 t_1) fun r22 =>
          some (.inl (r22.1, r22.2.1, r22.2.2))) (fun ((v2, e3, o4) : api_Value × Int × parse_stack) =>
    some (v2, e3 == 0, e3, o4))
  (fun ((t6, t7, o8) : Bool × Int × parse_stack) => some ((api_Value.mk 0 0 (Str.mk []) ([] : List api_Value)), t6, t7, o8))
def ir_parse_stack_step : IC :=
 (.seq (.reg none [i1 3 (.boxL 8 (.t 1)),
 i1 4 (.allocL [.int .i64 0, .int .i64 0, .str [], .sl true 4 0 []]),
 i1 5 (.mov false (.c (.bool false))),
 i1 6 (.mov false (.c (.int .i64 0)))] [0, 3, 4])
 (.seq (.reg none [i1 7 (.allocL [.int .i64 0, .int .i64 0, .str [], .sl true 4 0 []])] [0, 3, 4, 7])
 (.seq (.reg none [i1 8 (.mov false (.c (.int .i64 0)))] [0, 3, 4, 7])
 (.join [(4, false), (7, false), (8, false)] (.seq (.reg none [i1 9 (.fieldAddr 0 (.t 3)),
 i1 10 (.load 1 false (.t 9))] [0, 3, 4, 7, 10])
 (.block 0 (.seq (.reg none [i1 28 (.bin .eql (.t 10) (.c (.int .i64 0))),
 mv 27 28] [0, 3, 4, 7, 10, 27])
 (.cond (.t 27) (.seq (.reg none [i1 29 (.load 4 true (.t 7)),
 i0 (.store 4 (.t 4) (.t 29)),
 i1 5 (.mov false (.c (.bool false))),
 i1 6 (.mov false (.c (.int .i64 10)))] [4, 5, 6])
 .ret)
 (.join [(0, false), (3, false), (4, false), (7, false), (10, false), (30, false)] (.seq (.reg none [i1 31 (.bin .eql (.t 10) (.c (.int .i64 2))),
 mv 30 31] [0, 3, 4, 7, 10, 30])
 (.cond (.t 30) .skip
 (.reg none [i1 32 (.bin .eql (.t 10) (.c (.int .i64 4))),
 mv 30 32] [0, 3, 4, 7, 10, 30])))
 (.cond (.t 30) (.seq (.regB [4] [(1, 0, i1 33 (.load 4 true (.t 7))),
 (0, 1, mv 34 0),
 (0, 2, i1 35 (.fieldAddr 0 (.t 3))),
 (0, 3, i1 36 (.load 1 false (.t 35))),
 (0, 4, i1 37 (.bin .eql (.t 36) (.c (.int .i64 4)))),
 (2, 5, i1 38 (.call 186 [(.t 34), (.t 37)])),
 (0, 6, i0 (.store 4 (.t 4) (.t 33))),
 (0, 7, i1 5 (.mov false (.c (.bool false)))),
 (0, 8, mv 6 38)] [4, 5, 6])
 .ret)
 (.join [(0, false), (3, false), (4, false), (7, false), (39, false)] (.seq (.reg none [i1 40 (.bin .eql (.t 10) (.c (.int .i64 3))),
 mv 39 40] [0, 3, 4, 7, 10, 39])
 (.cond (.t 39) .skip
 (.reg none [i1 41 (.bin .eql (.t 10) (.c (.int .i64 5))),
 mv 39 41] [0, 3, 4, 7, 39])))
 (.cond (.t 39) (.reg none [mv 43 0,
 i1 44 (.fieldAddr 0 (.t 3)),
 i1 45 (.load 1 false (.t 44)),
 i1 46 (.bin .eql (.t 45) (.c (.int .i64 5))),
 i1 47 (.call 187 [(.t 43), (.t 46)]),
 i1 42 (.movT (.t 47)),
 i1 48 (.extract (.t 42) 0),
 i1 49 (.extract (.t 42) 1),
 i0 (.store 4 (.t 7) (.t 48)),
 mv 8 49] [4, 7, 8])
 (.seq (.reg none [mv 12 0,
 i1 13 (.load 8 true (.t 3)),
 i1 14 (.call 188 [(.t 12), (.t 13)]),
 i1 11 (.movT (.t 14)),
 i1 15 (.extract (.t 11) 0),
 i1 16 (.extract (.t 11) 1),
 i0 (.store 4 (.t 7) (.t 15)),
 mv 8 16] [0, 4, 7, 8])
 (.seq (.reg none [mv 17 8,
 i1 18 (.bin .eql (.t 17) (.c (.int .i64 0))),
 mv 19 18,
 mvg 20 0 19 true,
 i1g 21 19 true (.nilCheck (.t 20)),
 i1g 22 19 true (.fieldAddr 3 (.t 21)),
 i1g 23 19 true (.loadR [.sl false 1 0 []] false (.t 22)),
 i1g 24 19 true (.len 0 (.t 23)),
 i1g 25 19 true (.bin .geq (.t 24) (.c (.int .i64 64))),
 i1 26 (.pick (.t 19) (.t 25) (.c (.bool false)))] [4, 7, 8, 26])
 (.cond (.t 26) (.reg none [i1 8 (.mov false (.c (.int .i64 15)))] [4, 7, 8])
 .skip)))))))))))
 (.seq (.reg none [i1 50 (.load 4 true (.t 7)),
 mv 51 8,
 i1 52 (.bin .eql (.t 51) (.c (.int .i64 0))),
 mv 53 8,
 i0 (.store 4 (.t 4) (.t 50)),
 mv 5 52,
 mv 6 53] [4, 5, 6])
 .ret)))))
def res_parse_stack_step : List IRes := [⟨4, false, some (4, true)⟩, ⟨5, true, none⟩, ⟨6, true, none⟩]
theorem is_parse_stack_step : fnIs Go.Proofs.Tryz.prog 136 54 res_parse_stack_step ir_parse_stack_step = true := by kernel_rfl
theorem parse_stack_step_fn {s_0 t_1} {B0 : Nat} {s : Store} {Q : List AV → Store → Prop} (hB0 : s B0 = some (.cells [.sl false 1 s_0.b_.length (flat s_0.b_), .int .i64 s_0.at_, .bool s_0.last_, .sl true 1 0 []])) : ok (parse_stack_step s_0 t_1) (fun r => Q [.agg [.int .i64 r.1.Kind, .int .i64 r.1.N, .str r.1.S.b, .sl false 4 r.1.L.length (flat r.1.L)], .bool r.2.1, .int .i64 r.2.2.1] (s.set B0 (.cells [.sl false 1 r.2.2.2.b_.length (flat r.2.2.2.b_), .int .i64 r.2.2.2.at_, .bool r.2.2.2.last_, .sl true 1 0 []]))) → FN Go.Proofs.Tryz.prog 136 [.ref B0 0, .agg [.int .i64 t_1.Kind, .int .i64 t_1.From, .int .i64 t_1.To, .int .i64 t_1.V.Kind, .int .i64 t_1.V.N, .str t_1.V.S.b, .sl false 4 t_1.V.L.length (flat t_1.V.L), .str t_1.S.b]] s Q := by
  have hS : s = (s.set B0 (.cells [.sl false 1 s_0.b_.length (flat s_0.b_), .int .i64 s_0.at_, .bool s_0.last_, .sl true 1 0 []])) := by simp only [set_eq' hB0]
  rw [hS]
  intro h
  refine FN.of (draw_ok mix) is_parse_stack_step rfl (Nat.le_of_ble_eq_true rfl) ?_
  revert h
  rw [ir_parse_stack_step, res_parse_stack_step, parse_stack_step]
  repeat' (first
    | with_reducible exact tt_to
    | with_reducible refine lit_f ?_
    | with_reducible refine lit_f2 ?_
    | with_reducible refine lit_w ?_
    | with_reducible refine lit_w2 ?_
    | with_reducible refine lit_y ?_
    | with_reducible refine lit_y2 ?_
    | ((with_reducible refine b_to ?_ ?_); exact rfl)
    | ((with_reducible refine n_to ?_ ?_); exact rfl)
    | with_reducible refine and_to ?_ ?_
    | with_reducible exact im_and
    | with_reducible refine im_to ?_
    | with_reducible refine fun hh => parse_stack_begin_fn (B0 := B0) (by simp -implicitDefEqProofs only [go_sem, start, startE, resVs, resV, resC, allV, retK, Nat.reduceBEq, Nat.reduceAdd, Nat.reduceMul, Nat.reduceLeDiff, Nat.reduceEqDiff, Nat.reduceBNe, Nat.ble_eq, UInt8.reduceToNat, UInt32.reduceToNat] <;> simp only [encM_nil])   (ok_mono (show ok (parse_stack_begin s_0 (t_1.Kind == 4)) _ from hh) fun r15 => ?_)
    | with_reducible refine fun hh => FN_cast (by simp -implicitDefEqProofs only [go_sem, start, startE, resVs, resV, resC, allV, retK, Nat.reduceBEq, Nat.reduceAdd, Nat.reduceMul, Nat.reduceLeDiff, Nat.reduceEqDiff, Nat.reduceBNe, Nat.ble_eq, UInt8.reduceToNat, UInt32.reduceToNat]) (parse_stack_begin_fn (B0 := B0) (by simp -implicitDefEqProofs only [go_sem, start, startE, resVs, resV, resC, allV, retK, Nat.reduceBEq, Nat.reduceAdd, Nat.reduceMul, Nat.reduceLeDiff, Nat.reduceEqDiff, Nat.reduceBNe, Nat.ble_eq, UInt8.reduceToNat, UInt32.reduceToNat] <;> simp only [encM_nil])   (ok_mono (show ok (parse_stack_begin s_0 (t_1.Kind == 4)) _ from hh) fun r15 => ?_))
    | with_reducible refine fun hh => parse_stack_end_fn (B0 := B0) (by simp -implicitDefEqProofs only [go_sem, start, startE, resVs, resV, resC, allV, retK, Nat.reduceBEq, Nat.reduceAdd, Nat.reduceMul, Nat.reduceLeDiff, Nat.reduceEqDiff, Nat.reduceBNe, Nat.ble_eq, UInt8.reduceToNat, UInt32.reduceToNat] <;> simp only [encM_nil])   (ok_mono (show ok (parse_stack_end s_0 (t_1.Kind == 5)) _ from hh) fun r21 => ?_)
    | with_reducible refine fun hh => FN_cast (by simp -implicitDefEqProofs only [go_sem, start, startE, resVs, resV, resC, allV, retK, Nat.reduceBEq, Nat.reduceAdd, Nat.reduceMul, Nat.reduceLeDiff, Nat.reduceEqDiff, Nat.reduceBNe, Nat.ble_eq, UInt8.reduceToNat, UInt32.reduceToNat]) (parse_stack_end_fn (B0 := B0) (by simp -implicitDefEqProofs only [go_sem, start, startE, resVs, resV, resC, allV, retK, Nat.reduceBEq, Nat.reduceAdd, Nat.reduceMul, Nat.reduceLeDiff, Nat.reduceEqDiff, Nat.reduceBNe, Nat.ble_eq, UInt8.reduceToNat, UInt32.reduceToNat] <;> simp only [encM_nil])   (ok_mono (show ok (parse_stack_end s_0 (t_1.Kind == 5)) _ from hh) fun r21 => ?_))
    | with_reducible refine fun hh => parse_stack_single_fn (B0 := B0) (by simp -implicitDefEqProofs only [go_sem, start, startE, resVs, resV, resC, allV, retK, Nat.reduceBEq, Nat.reduceAdd, Nat.reduceMul, Nat.reduceLeDiff, Nat.reduceEqDiff, Nat.reduceBNe, Nat.ble_eq, UInt8.reduceToNat, UInt32.reduceToNat] <;> simp only [encM_nil])   (ok_mono (show ok (parse_stack_single s_0 t_1) _ from hh) fun r22 => ?_)
    | with_reducible refine fun hh => FN_cast (by simp -implicitDefEqProofs only [go_sem, start, startE, resVs, resV, resC, allV, retK, Nat.reduceBEq, Nat.reduceAdd, Nat.reduceMul, Nat.reduceLeDiff, Nat.reduceEqDiff, Nat.reduceBNe, Nat.ble_eq, UInt8.reduceToNat, UInt32.reduceToNat]) (parse_stack_single_fn (B0 := B0) (by simp -implicitDefEqProofs only [go_sem, start, startE, resVs, resV, resC, allV, retK, Nat.reduceBEq, Nat.reduceAdd, Nat.reduceMul, Nat.reduceLeDiff, Nat.reduceEqDiff, Nat.reduceBNe, Nat.ble_eq, UInt8.reduceToNat, UInt32.reduceToNat] <;> simp only [encM_nil])   (ok_mono (show ok (parse_stack_single s_0 t_1) _ from hh) fun r22 => ?_))
    | ((with_reducible refine join_to (live := [(0, false), (3, false), (4, false), (7, false), (10, false), (30, false)]) (fun (t13 : Bool) => ⟨[(0, .ref B0 0), (3, .loc [.int .i64 t_1.Kind, .int .i64 t_1.From, .int .i64 t_1.To, .int .i64 t_1.V.Kind, .int .i64 t_1.V.N, .str t_1.V.S.b, .sl false 4 t_1.V.L.length (flat t_1.V.L), .str t_1.S.b]), (4, .loc [.int .i64 0, .int .i64 0, .str (Str.mk []).b, .sl true 4 0 []]), (7, .loc [.int .i64 0, .int .i64 0, .str (Str.mk []).b, .sl true 4 0 []]), (10, .int .i64 t_1.Kind), (30, .bool t13)], [], (s.set B0 (.cells [.sl false 1 s_0.b_.length (flat s_0.b_), .int .i64 s_0.at_, .bool s_0.last_, .sl true 1 0 []]))⟩) (fun J => ?_) ?_); rotate_left; rintro t13)
    | ((with_reducible refine join_to (live := [(0, false), (3, false), (4, false), (7, false), (39, false)]) (fun (t19 : Bool) => ⟨[(0, .ref B0 0), (3, .loc [.int .i64 t_1.Kind, .int .i64 t_1.From, .int .i64 t_1.To, .int .i64 t_1.V.Kind, .int .i64 t_1.V.N, .str t_1.V.S.b, .sl false 4 t_1.V.L.length (flat t_1.V.L), .str t_1.S.b]), (4, .loc [.int .i64 0, .int .i64 0, .str (Str.mk []).b, .sl true 4 0 []]), (7, .loc [.int .i64 0, .int .i64 0, .str (Str.mk []).b, .sl true 4 0 []]), (39, .bool t19)], [], (s.set B0 (.cells [.sl false 1 s_0.b_.length (flat s_0.b_), .int .i64 s_0.at_, .bool s_0.last_, .sl true 1 0 []]))⟩) (fun J => ?_) ?_); rotate_left; rintro t19)
    | ((with_reducible refine join_toS (live := [(4, false), (7, false), (8, false)]) (fun ((v2, e3, o4) : api_Value × Int × parse_stack) => ⟨[(4, .loc [.int .i64 0, .int .i64 0, .str (Str.mk []).b, .sl true 4 0 []]), (7, .loc [.int .i64 v2.Kind, .int .i64 v2.N, .str v2.S.b, .sl false 4 v2.L.length (flat v2.L)]), (8, .int .i64 e3)], [], (s.set B0 (.cells [.sl false 1 o4.b_.length (flat o4.b_), .int .i64 o4.at_, .bool o4.last_, .sl true 1 0 []]))⟩) (fun J => ?_) ?_); rotate_left; rintro ⟨v2, e3, o4⟩)
    | simp -implicitDefEqProofs only [go_sem, start, startE, resVs, resV, resC, allV, retK, Nat.reduceBEq, Nat.reduceAdd, Nat.reduceMul, Nat.reduceLeDiff, Nat.reduceEqDiff, Nat.reduceBNe, Nat.ble_eq, UInt8.reduceToNat, UInt32.reduceToNat])
def parse_Value (b_0 : (List UInt8)) (at_1 : Int) (last_2 : Bool) : Option (api_Value × Int × Int) :=
  bnd (
    iter (fun (o1 : parse_stack) =>
      bnd (parse_stack_next o1) fun r6 =>
      if r6.2.1 != 0 then
        some (.inr ((api_Value.mk 0 0 (Str.mk []) ([] : List api_Value)), (0 : Int), r6.2.1, r6.2.2))
      else
        bnd (parse_stack_step r6.2.2 r6.1) fun r7 =>
        if r7.2.2.1 != 0 then
          some (.inr ((api_Value.mk 0 0 (Str.mk []) ([] : List api_Value)), (0 : Int), r7.2.2.1, r7.2.2.2))
        else
          if !r7.2.1 then
            some (.inl r7.2.2.2)
          else
            bnd (parse_stack_top r7.2.2.2) fun r8 =>
            some (.inr (r7.1, r7.2.2.2.at_, (0 : Int), r7.2.2.2))) (parse_stack.mk b_0 at_1 last_2)) fun ((t2, t3, t4, o5) : api_Value × Int × Int × parse_stack) =>
  some (t2, t3, t4)
def ir_parse_Value : IC :=
 (.seq (.reg none [i1 6 (.allocL [.int .i64 0, .int .i64 0, .str [], .sl true 4 0 []]),
 i1 7 (.mov false (.c (.int .i64 0))),
 i1 8 (.mov false (.c (.int .i64 0)))] [0, 1, 2, 6])
 (.scopeJ 0 [(6, false), (9, false)] (.reg none [mt 15 0,
 mv 16 1,
 mv 17 2,
 i1 18 (.build [.sl true 1 0 [], .int .i64 0, .bool false, .arr 0 0 0 0] [(0, 1, (.t 15)), (1, 1, (.t 16)), (2, 1, (.t 17))]),
 i1 19 (.boxN 1 4 (.t 18)),
 mv 9 19] [6, 9])
 .skip
 .skip
 (.seq (.reg none [mv 21 9,
 i1 22 (.call 135 [(.t 21)]),
 i1 20 (.movT (.t 22)),
 i1 23 (.extract (.t 20) 0),
 i1 24 (.extract (.t 20) 1),
 i1 10 (.allocL [.int .i64 0, .int .i64 0, .int .i64 0, .int .i64 0, .int .i64 0, .str [], .sl true 4 0 [], .str []]),
 i0 (.store 8 (.t 10) (.t 23)),
 mv 11 24] [6, 9, 10, 11])
 (.seq (.seq (.reg none [mv 25 11,
 i1 26 (.bin .neq (.t 25) (.c (.int .i64 0)))] [6, 9, 10, 11, 26])
 (.cond (.t 26) (.seq (.reg none [i1 27 (.build [.int .i64 0, .int .i64 0, .str [], .sl true 4 0 []] []),
 mv 28 11,
 i0 (.store 4 (.t 6) (.t 27)),
 i1 7 (.mov false (.c (.int .i64 0))),
 mv 8 28] [6, 7, 8])
 .ret)
 .skip))
 (.seq (.reg none [mv 30 9,
 i1 31 (.load 8 true (.t 10)),
 i1 32 (.call 136 [(.t 30), (.t 31)]),
 i1 29 (.movT (.t 32)),
 i1 33 (.extract (.t 29) 0),
 i1 34 (.extract (.t 29) 1),
 i1 35 (.extract (.t 29) 2),
 i1 12 (.allocL [.int .i64 0, .int .i64 0, .str [], .sl true 4 0 []]),
 i0 (.store 4 (.t 12) (.t 33)),
 mv 13 34,
 mv 11 35] [6, 9, 11, 12, 13])
 (.seq (.seq (.reg none [mv 36 11,
 i1 37 (.bin .neq (.t 36) (.c (.int .i64 0)))] [6, 9, 11, 12, 13, 37])
 (.cond (.t 37) (.seq (.reg none [i1 38 (.build [.int .i64 0, .int .i64 0, .str [], .sl true 4 0 []] []),
 mv 39 11,
 i0 (.store 4 (.t 6) (.t 38)),
 i1 7 (.mov false (.c (.int .i64 0))),
 mv 8 39] [6, 7, 8])
 .ret)
 .skip))
 (.seq (.seq (.reg none [mv 40 13,
 i1 41 (.un .not (.t 40))] [6, 9, 12, 41])
 (.cond (.t 41) (.goto 0)
 .skip))
 (.seq (.seq (.reg none [mv 42 9,
 i1 43 (.call 137 [(.t 42)]),
 mv 14 43] [6, 9, 12, 14])
 (.seq (.reg none [mv 44 14,
 i1 45 (.eqP true (.t 44) (.c (.nilp)))] [6, 9, 12, 14, 45])
 (.cond (.t 45) (.seq (.regX [[false, false, false, false, false, false, false, false, false, false, false, false, false], [true, false, false, false, false, false, false, false, false, false, false, false, false], [false, true, false, false, false, false, false, false, false, false, false, false, false], [false, false, true, false, false, false, false, false, false, false, false, false, false], [false, false, false, false, false, false, false, false, false, false, false, false, false], [false, false, false, true, false, false, false, false, false, false, false, false, false], [false, false, false, false, false, false, false, false, false, false, false, false, false], [true, true, true, true, true, true, true, false, false, false, false, false, false], [true, true, true, true, true, true, true, true, false, false, false, false, false], [true, true, true, true, true, true, true, true, true, false, false, false, false], [true, true, true, true, true, true, true, true, false, false, false, false, false], [true, true, true, true, true, true, true, true, false, false, true, false, false], [true, true, true, true, true, true, true, true, false, false, false, true, false]] [mv 46 14,
 i1 47 (.nilCheck (.t 46)),
 i1 48 (.fieldAddr 1 (.t 47)),
 i1 49 (.load 1 false (.t 48)),
 i1 50 (.load 4 true (.t 12)),
 i1 51 (.len 0 (.t 49)),
 i1 52 (.buildSl 4 1 [.int .i64 0, .int .i64 0, .str [], .sl true 4 0 []] [(0, 4, (.c (.agg [.int .i64 0, .int .i64 0, .str [], .sl true 4 0 []])))]),
 i1 53 (.append 4 56 (.t 49) (.t 52)),
 i1 54 (.indexAddr [.int .i64 0, .int .i64 0, .str [], .sl false 4 0 []] (.t 53) (.t 51)),
 i0 (.store 4 (.t 54) (.t 50)),
 i1 55 (.nilCheck (.t 46)),
 i1 56 (.fieldAddr 1 (.t 55)),
 i0 (.store 1 (.t 56) (.t 53))] [6, 9])
 (.goto 0))
 .skip)))
 (.seq (.regT [6] 8 [i1 57 (.load 4 true (.t 12)),
 mv 58 9,
 i1 59 (.nilCheck (.t 58)),
 i1 60 (.fieldAddr 1 (.t 59)),
 i1 61 (.loadR [.int .i64 0] false (.t 60)),
 i0 (.store 4 (.t 6) (.t 57)),
 mv 7 61,
 i1 8 (.mov false (.c (.int .i64 0)))] [6, 7, 8])
 .ret)))))))))
def res_parse_Value : List IRes := [⟨6, false, some (4, true)⟩, ⟨7, true, none⟩, ⟨8, true, none⟩]
theorem is_parse_Value : fnIs Go.Proofs.Tryz.prog 83 62 res_parse_Value ir_parse_Value = true := by kernel_rfl
set_option maxHeartbeats 8000000 in
theorem parse_Value_fn {b_0 at_1 last_2} {s : Store} {Q : List AV → Store → Prop}  : ok (parse_Value b_0 at_1 last_2) (fun r => Q [.agg [.int .i64 r.1.Kind, .int .i64 r.1.N, .str r.1.S.b, .sl false 4 r.1.L.length (flat r.1.L)], .int .i64 r.2.1, .int .i64 r.2.2] s) → FN Go.Proofs.Tryz.prog 83 [.sl false 1 b_0.length (flat b_0), .int .i64 at_1, .bool last_2] s Q := by
  intro h
  refine FN.forget ?_
  refine FN.of (draw_ok mix) is_parse_Value rfl (Nat.le_of_ble_eq_true rfl) ?_
  revert h
  rw [ir_parse_Value, res_parse_Value, parse_Value]
  repeat' (first
    | with_reducible exact tt_to
    | with_reducible refine lit_f ?_
    | with_reducible refine lit_f2 ?_
    | with_reducible refine lit_w ?_
    | with_reducible refine lit_w2 ?_
    | with_reducible refine lit_y ?_
    | with_reducible refine lit_y2 ?_
    | ((with_reducible refine b_to ?_ ?_); exact rfl)
    | ((with_reducible refine n_to ?_ ?_); exact rfl)
    | with_reducible refine and_to ?_ ?_
    | with_reducible exact im_and
    | with_reducible refine im_to ?_
    | ((with_reducible apply x_to); (· intro Q' hQ; repeat' (first | exact hQ | (simp only [xwpK_eq, xwp_cons, xalt_cons, xalt_nil, xrdy, xrev, Bool.not_true, Bool.not_false, Bool.or_true, Bool.true_or, Bool.false_or, Bool.or_false, Bool.and_true, Bool.true_and, Bool.and_false, Bool.false_and, cond_true, cond_false, true_and, and_true]; done) | with_reducible refine ⟨?_, ?_⟩ | with_reducible exact trivial | simp only [xwpK_eq, xwp_cons, xalt_cons, xalt_nil, xrdy, xrev, Bool.not_true, Bool.not_false, Bool.or_true, Bool.true_or, Bool.false_or, Bool.or_false, Bool.and_true, Bool.true_and, Bool.and_false, Bool.false_and, cond_true, cond_false, true_and, and_true] | simp -implicitDefEqProofs only [go_sem, start, startE, resVs, resV, resC, allV, retK, Nat.reduceBEq, Nat.reduceAdd, Nat.reduceMul, Nat.reduceLeDiff, Nat.reduceEqDiff, Nat.reduceBNe, Nat.ble_eq, UInt8.reduceToNat, UInt32.reduceToNat])))
    | with_reducible refine fun hh => parse_stack_next_fn (B0 := N1) (by simp -implicitDefEqProofs only [go_sem, start, startE, resVs, resV, resC, allV, retK, Nat.reduceBEq, Nat.reduceAdd, Nat.reduceMul, Nat.reduceLeDiff, Nat.reduceEqDiff, Nat.reduceBNe, Nat.ble_eq, UInt8.reduceToNat, UInt32.reduceToNat] <;> simp only [encM_nil])   (ok_mono (show ok (parse_stack_next o1) _ from hh) fun r6 => ?_)
    | with_reducible refine fun hh => FN_cast (by simp -implicitDefEqProofs only [go_sem, start, startE, resVs, resV, resC, allV, retK, Nat.reduceBEq, Nat.reduceAdd, Nat.reduceMul, Nat.reduceLeDiff, Nat.reduceEqDiff, Nat.reduceBNe, Nat.ble_eq, UInt8.reduceToNat, UInt32.reduceToNat]) (parse_stack_next_fn (B0 := N1) (by simp -implicitDefEqProofs only [go_sem, start, startE, resVs, resV, resC, allV, retK, Nat.reduceBEq, Nat.reduceAdd, Nat.reduceMul, Nat.reduceLeDiff, Nat.reduceEqDiff, Nat.reduceBNe, Nat.ble_eq, UInt8.reduceToNat, UInt32.reduceToNat] <;> simp only [encM_nil])   (ok_mono (show ok (parse_stack_next o1) _ from hh) fun r6 => ?_))
    | with_reducible refine fun hh => parse_stack_step_fn (B0 := N1) (by simp -implicitDefEqProofs only [go_sem, start, startE, resVs, resV, resC, allV, retK, Nat.reduceBEq, Nat.reduceAdd, Nat.reduceMul, Nat.reduceLeDiff, Nat.reduceEqDiff, Nat.reduceBNe, Nat.ble_eq, UInt8.reduceToNat, UInt32.reduceToNat] <;> simp only [encM_nil])   (ok_mono (show ok (parse_stack_step r6.2.2 r6.1) _ from hh) fun r7 => ?_)
    | with_reducible refine fun hh => FN_cast (by simp -implicitDefEqProofs only [go_sem, start, startE, resVs, resV, resC, allV, retK, Nat.reduceBEq, Nat.reduceAdd, Nat.reduceMul, Nat.reduceLeDiff, Nat.reduceEqDiff, Nat.reduceBNe, Nat.ble_eq, UInt8.reduceToNat, UInt32.reduceToNat]) (parse_stack_step_fn (B0 := N1) (by simp -implicitDefEqProofs only [go_sem, start, startE, resVs, resV, resC, allV, retK, Nat.reduceBEq, Nat.reduceAdd, Nat.reduceMul, Nat.reduceLeDiff, Nat.reduceEqDiff, Nat.reduceBNe, Nat.ble_eq, UInt8.reduceToNat, UInt32.reduceToNat] <;> simp only [encM_nil])   (ok_mono (show ok (parse_stack_step r6.2.2 r6.1) _ from hh) fun r7 => ?_))
    | with_reducible refine call_to (fun _ (h : parse_stack_top r7.2.2.2 = some _) => parse_stack_top_fe (B0 := N1) (by simp -implicitDefEqProofs only [go_sem, start, startE, resVs, resV, resC, allV, retK, Nat.reduceBEq, Nat.reduceAdd, Nat.reduceMul, Nat.reduceLeDiff, Nat.reduceEqDiff, Nat.reduceBNe, Nat.ble_eq, UInt8.reduceToNat, UInt32.reduceToNat] <;> simp only [encM_nil])   h) (fun r8 => ?_)
    | with_reducible refine call_to_q (fun _ (h : parse_stack_top r7.2.2.2 = some _) => parse_stack_top_fe (B0 := N1) (by simp -implicitDefEqProofs only [go_sem, start, startE, resVs, resV, resC, allV, retK, Nat.reduceBEq, Nat.reduceAdd, Nat.reduceMul, Nat.reduceLeDiff, Nat.reduceEqDiff, Nat.reduceBNe, Nat.ble_eq, UInt8.reduceToNat, UInt32.reduceToNat] <;> simp only [encM_nil])   h) (fun _ => rfl) (fun r8 => ?_)
    | ((with_reducible refine jump_to (fun (o1 : parse_stack) => ⟨[(6, .loc [.int .i64 0, .int .i64 0, .str (Str.mk []).b, .sl true 4 0 []]), (9, .ref N1 0)], [], (s.set N1 (.cells [.sl false 1 o1.b_.length (flat o1.b_), .int .i64 o1.at_, .bool o1.last_, .sl true 1 0 []]))⟩) ?_ ?_); (first | exact rfl | simp -implicitDefEqProofs only [go_sem, start, startE, resVs, resV, resC, allV, retK, Nat.reduceBEq, Nat.reduceAdd, Nat.reduceMul, Nat.reduceLeDiff, Nat.reduceEqDiff, Nat.reduceBNe, Nat.ble_eq, UInt8.reduceToNat, UInt32.reduceToNat]); rintro J o1)
    | ((fail_if_success (have _x := sN1)); with_reducible intro hh N1 hN1; (try simp only [set_none] at hN1); have sN1 := hN1; revert hh)
    | with_reducible exact fun hh => ⟨_, SubS.set (SubS.refl _) (by simp [Store.set, sN1]), hh⟩
    | with_reducible exact fun hh => ⟨_, SubS.refl _, hh⟩
    | simp -implicitDefEqProofs only [go_sem, start, startE, resVs, resV, resC, allV, retK, Nat.reduceBEq, Nat.reduceAdd, Nat.reduceMul, Nat.reduceLeDiff, Nat.reduceEqDiff, Nat.reduceBNe, Nat.ble_eq, UInt8.reduceToNat, UInt32.reduceToNat]
    | simp -implicitDefEqProofs only [go_sem, start, startE, resVs, resV, resC, allV, retK, Nat.reduceBEq, Nat.reduceAdd, Nat.reduceMul, Nat.reduceLeDiff, Nat.reduceEqDiff, Nat.reduceBNe, Nat.ble_eq, UInt8.reduceToNat, UInt32.reduceToNat]
    | (rw [Nat.add_comm 1]; with_reducible exact tt_to))
theorem parse_Value_fe {b_0 at_1 last_2} {s : Store} {r : api_Value × Int × Int}  (h : parse_Value b_0 at_1 last_2 = some r) : FE Go.Proofs.Tryz.prog 83 [.sl false 1 b_0.length (flat b_0), .int .i64 at_1, .bool last_2] s [.agg [.int .i64 r.1.Kind, .int .i64 r.1.N, .str r.1.S.b, .sl false 4 r.1.L.length (flat r.1.L)], .int .i64 r.2.1, .int .i64 r.2.2] s := parse_Value_fn  ⟨r, h, rfl, rfl⟩
end Go.AB
end

section
set_option maxRecDepth 4000
namespace Go.AB
open Go
attribute [-go_sem] xwp_cons xwpK_eq xalt_cons xalt_nil
def parse_Word_1 (t_0 : lex_Token) (c_1 : Str) : Option (Bool) :=
  some ((t_0.Kind == 6) && (t_0.S.b == c_1.b))
def ir_parse_Word_1 : IC :=
 (.seq (.reg none [i1 2 (.boxL 8 (.t 0)),
 i1 3 (.mov false (.c (.bool false)))] [1, 2])
 (.seq (.reg none [i1 4 (.fieldAddr 0 (.t 2)),
 i1 5 (.load 1 false (.t 4)),
 i1 6 (.bin .eql (.t 5) (.c (.int .i64 6))),
 mv 7 6,
 i1g 8 7 true (.fieldAddr 7 (.t 2)),
 i1g 9 7 true (.load 1 false (.t 8)),
 i1g 10 7 true (.loadR [.str []] false (.t 1)),
 i1g 11 7 true (.bin .eql (.t 9) (.t 10)),
 i1 12 (.pick (.t 7) (.t 11) (.c (.bool false))),
 mv 3 12] [3])
 .ret))
def res_parse_Word_1 : List IRes := [⟨3, true, none⟩]
theorem is_parse_Word_1 : fnIs Go.Proofs.Tryz.prog 184 13 res_parse_Word_1 ir_parse_Word_1 = true := by kernel_rfl
theorem parse_Word_1_fn {t_0 c_1} {B1 : Nat} {s : Store} {Q : List AV → Store → Prop} (hB1 : s B1 = some (.cells [.str c_1.b])) : ok (parse_Word_1 t_0 c_1) (fun r => Q [.bool r] s) → FN Go.Proofs.Tryz.prog 184 [.agg [.int .i64 t_0.Kind, .int .i64 t_0.From, .int .i64 t_0.To, .int .i64 t_0.V.Kind, .int .i64 t_0.V.N, .str t_0.V.S.b, .sl false 4 t_0.V.L.length (flat t_0.V.L), .str t_0.S.b], .ref B1 0] s Q := by
  have hS : s = (s.set B1 (.cells [.str c_1.b])) := by simp only [set_eq' hB1]
  rw [hS]
  intro h
  refine FN.of (draw_ok mix) is_parse_Word_1 rfl (Nat.le_of_ble_eq_true rfl) ?_
  revert h
  rw [ir_parse_Word_1, res_parse_Word_1, parse_Word_1]
  repeat' (first
    | with_reducible exact tt_to
    | with_reducible refine and_to ?_ ?_
    | with_reducible exact im_and
    | with_reducible refine im_to ?_
    | simp -implicitDefEqProofs only [go_sem, start, startE, resVs, resV, resC, allV, retK, Nat.reduceBEq, Nat.reduceAdd, Nat.reduceMul, Nat.reduceLeDiff, Nat.reduceEqDiff, Nat.reduceBNe, Nat.ble_eq, UInt8.reduceToNat, UInt32.reduceToNat])
theorem parse_Word_1_fe {t_0 c_1} {B1 : Nat} {s : Store} {r : Bool} (hB1 : s B1 = some (.cells [.str c_1.b])) (h : parse_Word_1 t_0 c_1 = some r) : FE Go.Proofs.Tryz.prog 184 [.agg [.int .i64 t_0.Kind, .int .i64 t_0.From, .int .i64 t_0.To, .int .i64 t_0.V.Kind, .int .i64 t_0.V.N, .str t_0.V.S.b, .sl false 4 t_0.V.L.length (flat t_0.V.L), .str t_0.S.b], .ref B1 0] s [.bool r] s := parse_Word_1_fn hB1 ⟨r, h, rfl, rfl⟩
def parse_oneW (b_0 : (List UInt8)) (at_1 : Int) (last_2 : Bool) (c3_0 : Str) : Option (lex_Token × Int) :=
  bnd (lex_Next b_0 at_1 last_2) fun r1 =>
  if r1.2 != 0 then
    some ((lex_Token.mk 0 0 0 (api_Value.mk 0 0 (Str.mk []) ([] : List api_Value)) (Str.mk [])), r1.2)
  else
    if r1.1.Kind == 0 then
      some ((lex_Token.mk 0 0 0 (api_Value.mk 0 0 (Str.mk []) ([] : List api_Value)) (Str.mk [])), 10)
    else
      bnd (parse_Word_1 r1.1 c3_0) fun r2 =>
      if !r2 then
        some ((lex_Token.mk 0 0 0 (api_Value.mk 0 0 (Str.mk []) ([] : List api_Value)) (Str.mk [])), 11)
      else
        some (r1.1, 0)
theorem fnok_184 : (fnOK Go.Proofs.Tryz.prog 184 = true) = True := eq_true (by kernel_rfl)
def ir_parse_oneW : IC :=
 (.seq (.reg none [i1 8 (.allocL [.int .i64 0, .int .i64 0, .int .i64 0, .int .i64 0, .int .i64 0, .str [], .sl true 4 0 [], .str []]),
 i1 9 (.mov false (.c (.int .i64 0)))] [0, 1, 2, 3, 8])
 (.seq (.reg none [mt 13 0,
 mv 14 1,
 mv 15 2,
 i1 16 (.call 185 [(.t 13), (.t 14), (.t 15)]),
 i1 12 (.movT (.t 16)),
 i1 17 (.extract (.t 12) 0),
 i1 18 (.extract (.t 12) 1),
 i1 10 (.allocL [.int .i64 0, .int .i64 0, .int .i64 0, .int .i64 0, .int .i64 0, .str [], .sl true 4 0 [], .str []]),
 i0 (.store 8 (.t 10) (.t 17)),
 mv 11 18] [3, 8, 10, 11])
 (.seq (.block 0 (.seq (.reg none [mv 20 11,
 i1 21 (.bin .neq (.t 20) (.c (.int .i64 0))),
 mv 19 21] [3, 8, 10, 11, 19])
 (.cond (.t 19) (.seq (.reg none [i1 22 (.build [.int .i64 0, .int .i64 0, .int .i64 0, .int .i64 0, .int .i64 0, .str [], .sl true 4 0 [], .str []] []),
 mv 23 11,
 i0 (.store 8 (.t 8) (.t 22)),
 mv 9 23] [8, 9])
 .ret)
 (.seq (.reg none [i1 25 (.fieldAddr 0 (.t 10)),
 i1 26 (.load 1 false (.t 25)),
 i1 27 (.bin .eql (.t 26) (.c (.int .i64 0))),
 mv 24 27] [3, 8, 10, 24])
 (.cond (.t 24) (.seq (.reg none [i1 28 (.build [.int .i64 0, .int .i64 0, .int .i64 0, .int .i64 0, .int .i64 0, .str [], .sl true 4 0 [], .str []] []),
 i0 (.store 8 (.t 8) (.t 28)),
 i1 9 (.mov false (.c (.int .i64 10)))] [8, 9])
 .ret)
 (.seq (.reg none [mv 30 3,
 i1 31 (.load 8 true (.t 10)),
 i1 32 (.callv (.t 30) [(.t 31)]),
 i1 33 (.un .not (.t 32)),
 mv 29 33] [8, 10, 29])
 (.cond (.t 29) (.seq (.reg none [i1 34 (.build [.int .i64 0, .int .i64 0, .int .i64 0, .int .i64 0, .int .i64 0, .str [], .sl true 4 0 [], .str []] []),
 i0 (.store 8 (.t 8) (.t 34)),
 i1 9 (.mov false (.c (.int .i64 11)))] [8, 9])
 .ret)
 .skip)))))))
 (.seq (.reg none [i1 35 (.load 8 true (.t 10)),
 i0 (.store 8 (.t 8) (.t 35)),
 i1 9 (.mov false (.c (.int .i64 0)))] [8, 9])
 .ret))))
def res_parse_oneW : List IRes := [⟨8, false, some (8, true)⟩, ⟨9, true, none⟩]
theorem is_parse_oneW : fnIs Go.Proofs.Tryz.prog 182 36 res_parse_oneW ir_parse_oneW = true := by kernel_rfl
theorem parse_oneW_fn {b_0 at_1 last_2 c3_0} {B3_0 : Nat} {s : Store} {Q : List AV → Store → Prop} (hB3_0 : s B3_0 = some (.cells [.str c3_0.b])) : ok (parse_oneW b_0 at_1 last_2 c3_0) (fun r => Q [.agg [.int .i64 r.1.Kind, .int .i64 r.1.From, .int .i64 r.1.To, .int .i64 r.1.V.Kind, .int .i64 r.1.V.N, .str r.1.V.S.b, .sl false 4 r.1.V.L.length (flat r.1.V.L), .str r.1.S.b], .int .i64 r.2] s) → FN Go.Proofs.Tryz.prog 182 [.sl false 1 b_0.length (flat b_0), .int .i64 at_1, .bool last_2, .fn 184 [] [.ref B3_0 0]] s Q := by
  have hS : s = (s.set B3_0 (.cells [.str c3_0.b])) := by simp only [set_eq' hB3_0]
  rw [hS]
  intro h
  refine FN.of (draw_ok mix) is_parse_oneW rfl (Nat.le_of_ble_eq_true rfl) ?_
  revert h
  rw [ir_parse_oneW, res_parse_oneW, parse_oneW]
  repeat' (first
    | with_reducible exact tt_to
    | with_reducible refine and_to ?_ ?_
    | with_reducible exact im_and
    | with_reducible refine im_to ?_
    | with_reducible refine call_to (fun _ (h : lex_Next b_0 at_1 last_2 = some _) => lex_Next_fe h) (fun r1 => ?_)
    | with_reducible refine call_to_q (fun _ (h : lex_Next b_0 at_1 last_2 = some _) => lex_Next_fe h) (fun _ => rfl) (fun r1 => ?_)
    | with_reducible refine call_to (fun _ (h : lex_Next b_0 at_1 last_2 = some _) => (by refine FE_cast ?_ (lex_Next_fe h); simp -implicitDefEqProofs only [go_sem, start, startE, resVs, resV, resC, allV, retK, Nat.reduceBEq, Nat.reduceAdd, Nat.reduceMul, Nat.reduceLeDiff, Nat.reduceEqDiff, Nat.reduceBNe, Nat.ble_eq, UInt8.reduceToNat, UInt32.reduceToNat, fnok_184])) (fun r1 => ?_)
    | with_reducible refine call_to_q (fun _ (h : lex_Next b_0 at_1 last_2 = some _) => (by refine FE_cast ?_ (lex_Next_fe h); simp -implicitDefEqProofs only [go_sem, start, startE, resVs, resV, resC, allV, retK, Nat.reduceBEq, Nat.reduceAdd, Nat.reduceMul, Nat.reduceLeDiff, Nat.reduceEqDiff, Nat.reduceBNe, Nat.ble_eq, UInt8.reduceToNat, UInt32.reduceToNat, fnok_184])) (fun _ => rfl) (fun r1 => ?_)
    | with_reducible refine call_to (fun _ (h : parse_Word_1 r1.1 c3_0 = some _) => parse_Word_1_fe (B1 := B3_0) (by simp -implicitDefEqProofs only [go_sem, start, startE, resVs, resV, resC, allV, retK, Nat.reduceBEq, Nat.reduceAdd, Nat.reduceMul, Nat.reduceLeDiff, Nat.reduceEqDiff, Nat.reduceBNe, Nat.ble_eq, UInt8.reduceToNat, UInt32.reduceToNat, fnok_184] <;> simp only [encM_nil])   h) (fun r2 => ?_)
    | with_reducible refine call_to_q (fun _ (h : parse_Word_1 r1.1 c3_0 = some _) => parse_Word_1_fe (B1 := B3_0) (by simp -implicitDefEqProofs only [go_sem, start, startE, resVs, resV, resC, allV, retK, Nat.reduceBEq, Nat.reduceAdd, Nat.reduceMul, Nat.reduceLeDiff, Nat.reduceEqDiff, Nat.reduceBNe, Nat.ble_eq, UInt8.reduceToNat, UInt32.reduceToNat, fnok_184] <;> simp only [encM_nil])   h) (fun _ => rfl) (fun r2 => ?_)
    | simp -implicitDefEqProofs only [go_sem, start, startE, resVs, resV, resC, allV, retK, Nat.reduceBEq, Nat.reduceAdd, Nat.reduceMul, Nat.reduceLeDiff, Nat.reduceEqDiff, Nat.reduceBNe, Nat.ble_eq, UInt8.reduceToNat, UInt32.reduceToNat, fnok_184])
theorem parse_oneW_fe {b_0 at_1 last_2 c3_0} {B3_0 : Nat} {s : Store} {r : lex_Token × Int} (hB3_0 : s B3_0 = some (.cells [.str c3_0.b])) (h : parse_oneW b_0 at_1 last_2 c3_0 = some r) : FE Go.Proofs.Tryz.prog 182 [.sl false 1 b_0.length (flat b_0), .int .i64 at_1, .bool last_2, .fn 184 [] [.ref B3_0 0]] s [.agg [.int .i64 r.1.Kind, .int .i64 r.1.From, .int .i64 r.1.To, .int .i64 r.1.V.Kind, .int .i64 r.1.V.N, .str r.1.V.S.b, .sl false 4 r.1.V.L.length (flat r.1.V.L), .str r.1.S.b], .int .i64 r.2] s := parse_oneW_fn hB3_0 ⟨r, h, rfl, rfl⟩
def parse_Word (b_0 : (List UInt8)) (at_1 : Int) (last_2 : Bool) (word_3 : Str) : Option (Int × Int) :=
  bnd (parse_oneW b_0 at_1 last_2 word_3) fun r1 =>
  some (r1.1.To, r1.2)
def ir_parse_Word : IC :=
 (.seq (.reg none [i1 7 (.boxS 1 (.t 3)),
 i1 8 (.mov false (.c (.int .i64 0))),
 i1 9 (.mov false (.c (.int .i64 0)))] [0, 1, 2, 7])
 (.seq (.reg none [mt 13 0,
 mv 14 1,
 mv 15 2,
 i1 16 (.makeFn 184 [] [(.t 7)]),
 i1 17 (.call 182 [(.t 13), (.t 14), (.t 15), (.t 16)]),
 i1 12 (.movT (.t 17)),
 i1 18 (.extract (.t 12) 0),
 i1 19 (.extract (.t 12) 1),
 i1 10 (.allocL [.int .i64 0, .int .i64 0, .int .i64 0, .int .i64 0, .int .i64 0, .str [], .sl true 4 0 [], .str []]),
 i0 (.store 8 (.t 10) (.t 18)),
 mv 11 19] [10, 11])
 (.seq (.reg none [i1 20 (.fieldAddr 2 (.t 10)),
 i1 21 (.load 1 false (.t 20)),
 mv 22 11,
 mv 8 21,
 mv 9 22] [8, 9])
 .ret)))
def res_parse_Word : List IRes := [⟨8, true, none⟩, ⟨9, true, none⟩]
theorem is_parse_Word : fnIs Go.Proofs.Tryz.prog 133 23 res_parse_Word ir_parse_Word = true := by kernel_rfl
theorem parse_Word_fn {b_0 at_1 last_2 word_3} {s : Store} {Q : List AV → Store → Prop}  : ok (parse_Word b_0 at_1 last_2 word_3) (fun r => Q [.int .i64 r.1, .int .i64 r.2] s) → FN Go.Proofs.Tryz.prog 133 [.sl false 1 b_0.length (flat b_0), .int .i64 at_1, .bool last_2, .str word_3.b] s Q := by
  intro h
  refine FN.forget ?_
  refine FN.of (draw_ok mix) is_parse_Word rfl (Nat.le_of_ble_eq_true rfl) ?_
  revert h
  rw [ir_parse_Word, res_parse_Word, parse_Word]
  repeat' (first
    | with_reducible exact tt_to
    | with_reducible refine and_to ?_ ?_
    | with_reducible exact im_and
    | with_reducible refine im_to ?_
    | with_reducible refine call_to (fun _ (h : parse_oneW b_0 at_1 last_2 word_3 = some _) => parse_oneW_fe (B3_0 := N1) (by simp -implicitDefEqProofs only [go_sem, start, startE, resVs, resV, resC, allV, retK, Nat.reduceBEq, Nat.reduceAdd, Nat.reduceMul, Nat.reduceLeDiff, Nat.reduceEqDiff, Nat.reduceBNe, Nat.ble_eq, UInt8.reduceToNat, UInt32.reduceToNat] <;> simp only [encM_nil])   h) (fun r1 => ?_)
    | with_reducible refine call_to_q (fun _ (h : parse_oneW b_0 at_1 last_2 word_3 = some _) => parse_oneW_fe (B3_0 := N1) (by simp -implicitDefEqProofs only [go_sem, start, startE, resVs, resV, resC, allV, retK, Nat.reduceBEq, Nat.reduceAdd, Nat.reduceMul, Nat.reduceLeDiff, Nat.reduceEqDiff, Nat.reduceBNe, Nat.ble_eq, UInt8.reduceToNat, UInt32.reduceToNat] <;> simp only [encM_nil])   h) (fun _ => rfl) (fun r1 => ?_)
    | ((fail_if_success (have _x := sN1)); with_reducible intro hh N1 hN1; (try simp only [set_none] at hN1); have sN1 := hN1; revert hh)
    | with_reducible exact fun hh => ⟨_, SubS.set (SubS.refl _) (by simp [Store.set, sN1]), hh⟩
    | with_reducible exact fun hh => ⟨_, SubS.refl _, hh⟩
    | simp -implicitDefEqProofs only [go_sem, start, startE, resVs, resV, resC, allV, retK, Nat.reduceBEq, Nat.reduceAdd, Nat.reduceMul, Nat.reduceLeDiff, Nat.reduceEqDiff, Nat.reduceBNe, Nat.ble_eq, UInt8.reduceToNat, UInt32.reduceToNat]
    | simp -implicitDefEqProofs only [go_sem, start, startE, resVs, resV, resC, allV, retK, Nat.reduceBEq, Nat.reduceAdd, Nat.reduceMul, Nat.reduceLeDiff, Nat.reduceEqDiff, Nat.reduceBNe, Nat.ble_eq, UInt8.reduceToNat, UInt32.reduceToNat])
theorem parse_Word_fe {b_0 at_1 last_2 word_3} {s : Store} {r : Int × Int}  (h : parse_Word b_0 at_1 last_2 word_3 = some r) : FE Go.Proofs.Tryz.prog 133 [.sl false 1 b_0.length (flat b_0), .int .i64 at_1, .bool last_2, .str word_3.b] s [.int .i64 r.1, .int .i64 r.2] s := parse_Word_fn  ⟨r, h, rfl, rfl⟩
end Go.AB
end

section
set_option maxRecDepth 4000
namespace Go.AB
open Go
attribute [-go_sem] xwp_cons xwpK_eq xalt_cons xalt_nil
def parse_wholeW (t_0 : lex_Token) : Option (Bool) :=
  some ((t_0.Kind == 1) && (t_0.V.Kind == 2))
def ir_parse_wholeW : IC :=
 (.seq (.reg none [i1 1 (.boxL 8 (.t 0)),
 i1 2 (.mov false (.c (.bool false)))] [1])
 (.seq (.reg none [i1 3 (.fieldAddr 0 (.t 1)),
 i1 4 (.load 1 false (.t 3)),
 i1 5 (.bin .eql (.t 4) (.c (.int .i64 1))),
 mv 6 5,
 i1g 7 6 true (.fieldAddr 3 (.t 1)),
 i1g 8 6 true (.fieldAddr 0 (.t 7)),
 i1g 9 6 true (.load 1 false (.t 8)),
 i1g 10 6 true (.bin .eql (.t 9) (.c (.int .i64 2))),
 i1 11 (.pick (.t 6) (.t 10) (.c (.bool false))),
 mv 2 11] [2])
 .ret))
def res_parse_wholeW : List IRes := [⟨2, true, none⟩]
theorem is_parse_wholeW : fnIs Go.Proofs.Tryz.prog 183 12 res_parse_wholeW ir_parse_wholeW = true := by kernel_rfl
theorem parse_wholeW_fn {t_0} {s : Store} {Q : List AV → Store → Prop}  : ok (parse_wholeW t_0) (fun r => Q [.bool r] s) → FN Go.Proofs.Tryz.prog 183 [.agg [.int .i64 t_0.Kind, .int .i64 t_0.From, .int .i64 t_0.To, .int .i64 t_0.V.Kind, .int .i64 t_0.V.N, .str t_0.V.S.b, .sl false 4 t_0.V.L.length (flat t_0.V.L), .str t_0.S.b]] s Q := by
  intro h
  refine FN.of (draw_ok mix) is_parse_wholeW rfl (Nat.le_of_ble_eq_true rfl) ?_
  revert h
  rw [ir_parse_wholeW, res_parse_wholeW, parse_wholeW]
  repeat' (first
    | with_reducible exact tt_to
    | with_reducible refine and_to ?_ ?_
    | with_reducible exact im_and
    | with_reducible refine im_to ?_
    | simp -implicitDefEqProofs only [go_sem, start, startE, resVs, resV, resC, allV, retK, Nat.reduceBEq, Nat.reduceAdd, Nat.reduceMul, Nat.reduceLeDiff, Nat.reduceEqDiff, Nat.reduceBNe, Nat.ble_eq, UInt8.reduceToNat, UInt32.reduceToNat])
theorem parse_wholeW_fe {t_0} {s : Store} {r : Bool}  (h : parse_wholeW t_0 = some r) : FE Go.Proofs.Tryz.prog 183 [.agg [.int .i64 t_0.Kind, .int .i64 t_0.From, .int .i64 t_0.To, .int .i64 t_0.V.Kind, .int .i64 t_0.V.N, .str t_0.V.S.b, .sl false 4 t_0.V.L.length (flat t_0.V.L), .str t_0.S.b]] s [.bool r] s := parse_wholeW_fn  ⟨r, h, rfl, rfl⟩
def parse_oneWW (b_0 : (List UInt8)) (at_1 : Int) (last_2 : Bool) : Option (lex_Token × Int) :=
  bnd (lex_Next b_0 at_1 last_2) fun r1 =>
  if r1.2 != 0 then
    some ((lex_Token.mk 0 0 0 (api_Value.mk 0 0 (Str.mk []) ([] : List api_Value)) (Str.mk [])), r1.2)
  else
    if r1.1.Kind == 0 then
      some ((lex_Token.mk 0 0 0 (api_Value.mk 0 0 (Str.mk []) ([] : List api_Value)) (Str.mk [])), 10)
    else
      bnd (parse_wholeW r1.1) fun r2 =>
      if !r2 then
        some ((lex_Token.mk 0 0 0 (api_Value.mk 0 0 (Str.mk []) ([] : List api_Value)) (Str.mk [])), 11)
      else
        some (r1.1, 0)
theorem fnok_183 : (fnOK Go.Proofs.Tryz.prog 183 = true) = True := eq_true (by kernel_rfl)
def ir_parse_oneWW : IC :=
 (.seq (.reg none [i1 8 (.allocL [.int .i64 0, .int .i64 0, .int .i64 0, .int .i64 0, .int .i64 0, .str [], .sl true 4 0 [], .str []]),
 i1 9 (.mov false (.c (.int .i64 0)))] [0, 1, 2, 3, 8])
 (.seq (.reg none [mt 13 0,
 mv 14 1,
 mv 15 2,
 i1 16 (.call 185 [(.t 13), (.t 14), (.t 15)]),
 i1 12 (.movT (.t 16)),
 i1 17 (.extract (.t 12) 0),
 i1 18 (.extract (.t 12) 1),
 i1 10 (.allocL [.int .i64 0, .int .i64 0, .int .i64 0, .int .i64 0, .int .i64 0, .str [], .sl true 4 0 [], .str []]),
 i0 (.store 8 (.t 10) (.t 17)),
 mv 11 18] [3, 8, 10, 11])
 (.seq (.block 0 (.seq (.reg none [mv 20 11,
 i1 21 (.bin .neq (.t 20) (.c (.int .i64 0))),
 mv 19 21] [3, 8, 10, 11, 19])
 (.cond (.t 19) (.seq (.reg none [i1 22 (.build [.int .i64 0, .int .i64 0, .int .i64 0, .int .i64 0, .int .i64 0, .str [], .sl true 4 0 [], .str []] []),
 mv 23 11,
 i0 (.store 8 (.t 8) (.t 22)),
 mv 9 23] [8, 9])
 .ret)
 (.seq (.reg none [i1 25 (.fieldAddr 0 (.t 10)),
 i1 26 (.load 1 false (.t 25)),
 i1 27 (.bin .eql (.t 26) (.c (.int .i64 0))),
 mv 24 27] [3, 8, 10, 24])
 (.cond (.t 24) (.seq (.reg none [i1 28 (.build [.int .i64 0, .int .i64 0, .int .i64 0, .int .i64 0, .int .i64 0, .str [], .sl true 4 0 [], .str []] []),
 i0 (.store 8 (.t 8) (.t 28)),
 i1 9 (.mov false (.c (.int .i64 10)))] [8, 9])
 .ret)
 (.seq (.reg none [mv 30 3,
 i1 31 (.load 8 true (.t 10)),
 i1 32 (.callv (.t 30) [(.t 31)]),
 i1 33 (.un .not (.t 32)),
 mv 29 33] [8, 10, 29])
 (.cond (.t 29) (.seq (.reg none [i1 34 (.build [.int .i64 0, .int .i64 0, .int .i64 0, .int .i64 0, .int .i64 0, .str [], .sl true 4 0 [], .str []] []),
 i0 (.store 8 (.t 8) (.t 34)),
 i1 9 (.mov false (.c (.int .i64 11)))] [8, 9])
 .ret)
 .skip)))))))
 (.seq (.reg none [i1 35 (.load 8 true (.t 10)),
 i0 (.store 8 (.t 8) (.t 35)),
 i1 9 (.mov false (.c (.int .i64 0)))] [8, 9])
 .ret))))
def res_parse_oneWW : List IRes := [⟨8, false, some (8, true)⟩, ⟨9, true, none⟩]
theorem is_parse_oneWW : fnIs Go.Proofs.Tryz.prog 182 36 res_parse_oneWW ir_parse_oneWW = true := by kernel_rfl
theorem parse_oneWW_fn {b_0 at_1 last_2} {s : Store} {Q : List AV → Store → Prop}  : ok (parse_oneWW b_0 at_1 last_2) (fun r => Q [.agg [.int .i64 r.1.Kind, .int .i64 r.1.From, .int .i64 r.1.To, .int .i64 r.1.V.Kind, .int .i64 r.1.V.N, .str r.1.V.S.b, .sl false 4 r.1.V.L.length (flat r.1.V.L), .str r.1.S.b], .int .i64 r.2] s) → FN Go.Proofs.Tryz.prog 182 [.sl false 1 b_0.length (flat b_0), .int .i64 at_1, .bool last_2, .fn 183 [] []] s Q := by
  intro h
  refine FN.of (draw_ok mix) is_parse_oneWW rfl (Nat.le_of_ble_eq_true rfl) ?_
  revert h
  rw [ir_parse_oneWW, res_parse_oneWW, parse_oneWW]
  repeat' (first
    | with_reducible exact tt_to
    | with_reducible refine and_to ?_ ?_
    | with_reducible exact im_and
    | with_reducible refine im_to ?_
    | with_reducible refine call_to (fun _ (h : lex_Next b_0 at_1 last_2 = some _) => lex_Next_fe h) (fun r1 => ?_)
    | with_reducible refine call_to_q (fun _ (h : lex_Next b_0 at_1 last_2 = some _) => lex_Next_fe h) (fun _ => rfl) (fun r1 => ?_)
    | with_reducible refine call_to (fun _ (h : lex_Next b_0 at_1 last_2 = some _) => (by refine FE_cast ?_ (lex_Next_fe h); simp -implicitDefEqProofs only [go_sem, start, startE, resVs, resV, resC, allV, retK, Nat.reduceBEq, Nat.reduceAdd, Nat.reduceMul, Nat.reduceLeDiff, Nat.reduceEqDiff, Nat.reduceBNe, Nat.ble_eq, UInt8.reduceToNat, UInt32.reduceToNat, fnok_183])) (fun r1 => ?_)
    | with_reducible refine call_to_q (fun _ (h : lex_Next b_0 at_1 last_2 = some _) => (by refine FE_cast ?_ (lex_Next_fe h); simp -implicitDefEqProofs only [go_sem, start, startE, resVs, resV, resC, allV, retK, Nat.reduceBEq, Nat.reduceAdd, Nat.reduceMul, Nat.reduceLeDiff, Nat.reduceEqDiff, Nat.reduceBNe, Nat.ble_eq, UInt8.reduceToNat, UInt32.reduceToNat, fnok_183])) (fun _ => rfl) (fun r1 => ?_)
    | with_reducible refine call_to (fun _ (h : parse_wholeW r1.1 = some _) => parse_wholeW_fe h) (fun r2 => ?_)
    | with_reducible refine call_to_q (fun _ (h : parse_wholeW r1.1 = some _) => parse_wholeW_fe h) (fun _ => rfl) (fun r2 => ?_)
    | with_reducible refine call_to (fun _ (h : parse_wholeW r1.1 = some _) => (by refine FE_cast ?_ (parse_wholeW_fe h); simp -implicitDefEqProofs only [go_sem, start, startE, resVs, resV, resC, allV, retK, Nat.reduceBEq, Nat.reduceAdd, Nat.reduceMul, Nat.reduceLeDiff, Nat.reduceEqDiff, Nat.reduceBNe, Nat.ble_eq, UInt8.reduceToNat, UInt32.reduceToNat, fnok_183])) (fun r2 => ?_)
    | with_reducible refine call_to_q (fun _ (h : parse_wholeW r1.1 = some _) => (by refine FE_cast ?_ (parse_wholeW_fe h); simp -implicitDefEqProofs only [go_sem, start, startE, resVs, resV, resC, allV, retK, Nat.reduceBEq, Nat.reduceAdd, Nat.reduceMul, Nat.reduceLeDiff, Nat.reduceEqDiff, Nat.reduceBNe, Nat.ble_eq, UInt8.reduceToNat, UInt32.reduceToNat, fnok_183])) (fun _ => rfl) (fun r2 => ?_)
    | simp -implicitDefEqProofs only [go_sem, start, startE, resVs, resV, resC, allV, retK, Nat.reduceBEq, Nat.reduceAdd, Nat.reduceMul, Nat.reduceLeDiff, Nat.reduceEqDiff, Nat.reduceBNe, Nat.ble_eq, UInt8.reduceToNat, UInt32.reduceToNat, fnok_183])
theorem parse_oneWW_fe {b_0 at_1 last_2} {s : Store} {r : lex_Token × Int}  (h : parse_oneWW b_0 at_1 last_2 = some r) : FE Go.Proofs.Tryz.prog 182 [.sl false 1 b_0.length (flat b_0), .int .i64 at_1, .bool last_2, .fn 183 [] []] s [.agg [.int .i64 r.1.Kind, .int .i64 r.1.From, .int .i64 r.1.To, .int .i64 r.1.V.Kind, .int .i64 r.1.V.N, .str r.1.V.S.b, .sl false 4 r.1.V.L.length (flat r.1.V.L), .str r.1.S.b], .int .i64 r.2] s := parse_oneWW_fn  ⟨r, h, rfl, rfl⟩
def parse_Number (b_0 : (List UInt8)) (at_1 : Int) (last_2 : Bool) : Option (Int × Int × Int) :=
  bnd (parse_oneWW b_0 at_1 last_2) fun r1 =>
  some (r1.1.V.N, r1.1.To, r1.2)
def ir_parse_Number : IC :=
 (.seq (.reg none [i1 6 (.mov false (.c (.int .i64 0))),
 i1 7 (.mov false (.c (.int .i64 0))),
 i1 8 (.mov false (.c (.int .i64 0)))] [0, 1, 2])
 (.seq (.reg none [mt 12 0,
 mv 13 1,
 mv 14 2,
 i1 15 (.call 182 [(.t 12), (.t 13), (.t 14), (.c (.fn 183 [] []))]),
 i1 11 (.movT (.t 15)),
 i1 16 (.extract (.t 11) 0),
 i1 17 (.extract (.t 11) 1),
 i1 9 (.allocL [.int .i64 0, .int .i64 0, .int .i64 0, .int .i64 0, .int .i64 0, .str [], .sl true 4 0 [], .str []]),
 i0 (.store 8 (.t 9) (.t 16)),
 mv 10 17] [9, 10])
 (.seq (.reg (some 9) [i1 18 (.fieldAddr 3 (.t 9)),
 i1 19 (.fieldAddr 1 (.t 18)),
 i1 20 (.load 1 false (.t 19)),
 i1 21 (.fieldAddr 2 (.t 9)),
 i1 22 (.load 1 false (.t 21)),
 mv 23 10,
 mv 6 20,
 mv 7 22,
 mv 8 23] [6, 7, 8])
 .ret)))
def res_parse_Number : List IRes := [⟨6, true, none⟩, ⟨7, true, none⟩, ⟨8, true, none⟩]
theorem is_parse_Number : fnIs Go.Proofs.Tryz.prog 132 24 res_parse_Number ir_parse_Number = true := by kernel_rfl
theorem parse_Number_fn {b_0 at_1 last_2} {s : Store} {Q : List AV → Store → Prop}  : ok (parse_Number b_0 at_1 last_2) (fun r => Q [.int .i64 r.1, .int .i64 r.2.1, .int .i64 r.2.2] s) → FN Go.Proofs.Tryz.prog 132 [.sl false 1 b_0.length (flat b_0), .int .i64 at_1, .bool last_2] s Q := by
  intro h
  refine FN.of (draw_ok mix) is_parse_Number rfl (Nat.le_of_ble_eq_true rfl) ?_
  revert h
  rw [ir_parse_Number, res_parse_Number, parse_Number]
  repeat' (first
    | with_reducible exact tt_to
    | with_reducible refine and_to ?_ ?_
    | with_reducible exact im_and
    | with_reducible refine im_to ?_
    | with_reducible refine call_to (fun _ (h : parse_oneWW b_0 at_1 last_2 = some _) => parse_oneWW_fe h) (fun r1 => ?_)
    | with_reducible refine call_to_q (fun _ (h : parse_oneWW b_0 at_1 last_2 = some _) => parse_oneWW_fe h) (fun _ => rfl) (fun r1 => ?_)
    | with_reducible refine call_to (fun _ (h : parse_oneWW b_0 at_1 last_2 = some _) => (by refine FE_cast ?_ (parse_oneWW_fe h); simp -implicitDefEqProofs only [go_sem, start, startE, resVs, resV, resC, allV, retK, Nat.reduceBEq, Nat.reduceAdd, Nat.reduceMul, Nat.reduceLeDiff, Nat.reduceEqDiff, Nat.reduceBNe, Nat.ble_eq, UInt8.reduceToNat, UInt32.reduceToNat])) (fun r1 => ?_)
    | with_reducible refine call_to_q (fun _ (h : parse_oneWW b_0 at_1 last_2 = some _) => (by refine FE_cast ?_ (parse_oneWW_fe h); simp -implicitDefEqProofs only [go_sem, start, startE, resVs, resV, resC, allV, retK, Nat.reduceBEq, Nat.reduceAdd, Nat.reduceMul, Nat.reduceLeDiff, Nat.reduceEqDiff, Nat.reduceBNe, Nat.ble_eq, UInt8.reduceToNat, UInt32.reduceToNat])) (fun _ => rfl) (fun r1 => ?_)
    | simp -implicitDefEqProofs only [go_sem, start, startE, resVs, resV, resC, allV, retK, Nat.reduceBEq, Nat.reduceAdd, Nat.reduceMul, Nat.reduceLeDiff, Nat.reduceEqDiff, Nat.reduceBNe, Nat.ble_eq, UInt8.reduceToNat, UInt32.reduceToNat])
theorem parse_Number_fe {b_0 at_1 last_2} {s : Store} {r : Int × Int × Int}  (h : parse_Number b_0 at_1 last_2 = some r) : FE Go.Proofs.Tryz.prog 132 [.sl false 1 b_0.length (flat b_0), .int .i64 at_1, .bool last_2] s [.int .i64 r.1, .int .i64 r.2.1, .int .i64 r.2.2] s := parse_Number_fn  ⟨r, h, rfl, rfl⟩
end Go.AB
end
