/- A part of the proof: Kb, Ar, Kc, Pq, Hp, Pr, Pt, Pv, Ps, Pc, Is, It, Pp, Pw, Pn. -/
import Derived.Test.YtedaacdjoddnaaaGreatDoorC6
import Derived.Test.YtedaacdjoddnaaaGreatDoorC4
set_option linter.unusedSimpArgs false
set_option linter.unusedVariables false
section
set_option maxRecDepth 4000
namespace Go.AB
open Go
attribute [-go_sem] Nat.add_zero ge_0 part_zero
def ref11_holds (v_0 : api_Value) : Option (Bool) :=
 some ((v_0.Kind == 6) || (v_0.Kind == 7))
def ir_ref11_holds : IC :=
 (.seq (.reg none [i1 1 (.boxL 4 (.t 0)),
 mkk 2 (.bool false)] [1])
 (.seq (.reg none [fa 3 0 1,
 ld 4 1 3,
 bn 5 .eql 4 6,
 mv 6 5,
 fg 7 6 false 0 1,
 lg 8 6 false 1 7,
 i1g 9 6 false (.bin .eql (.t 8) (.c (.int .i64 7))),
 po 10 6 9,
 mv 2 10] [2])
 .ret))
def res_ref11_holds : List IRes := [⟨2, true, none⟩]
theorem is_ref11_holds : fnIs Go.Proofs.Tryz.prog 69 11 res_ref11_holds ir_ref11_holds = true := by kernel_rfl
theorem ref11_holds_fn {v_0} {s : Store} {Q : List AV → Store → Prop}  : ok (ref11_holds v_0) (fun r => Q [.bool r] s) → FN Go.Proofs.Tryz.prog 69 [.agg [.int .i64 v_0.Kind, .int .i64 v_0.N, .str v_0.S.b, .sl false 4 v_0.L.length (flat v_0.L)]] s Q := by
 intro h
 refine FN.of (draw_ok mix) is_ref11_holds rfl (Nat.le_of_ble_eq_true rfl) ?_
 revert h
 rw [ir_ref11_holds, res_ref11_holds, ref11_holds]
 repeat' (first
  | simp -implicitDefEqProofs only [go_sem, seval])
theorem ref11_holds_fe {v_0} {s : Store} {r : Bool}  (h : ref11_holds v_0 = some r) : FE Go.Proofs.Tryz.prog 69 [.agg [.int .i64 v_0.Kind, .int .i64 v_0.N, .str v_0.S.b, .sl false 4 v_0.L.length (flat v_0.L)]] s [.bool r] s := ref11_holds_fn  ⟨r, h, rfl, rfl⟩
def ref11_Depth : Nat → api_Value → Option (Int)
 | 0, _ => none
 | fuel + 1, v_0 =>
  bnd (ref11_holds v_0) fun r1 =>
  if !r1 then
   some 1
  else
   jn (
    iter (fun ((n3, k4) : Int × Int) =>
     if decide (k4 < (v_0.L.length : Int)) then
      jn (
       need (0 ≤ k4 ∧ k4 < v_0.L.length) <|
       bnd (ref11_Depth fuel (ix v_0.L k4)) fun r9 =>
       if decide (w64 (r9 + 1) > n3) then
        some (w64 (r9 + 1))
       else
        some n3) fun (n7 : Int) =>
      some (.inl (n7, w64 (k4 + 1)))
     else
      some (.inr n3)) (1, 0)) fun (n2 : Int) =>
   some n2
def ir_ref11_Depth : IC :=
 (.seq (.reg none [i1 1 (.boxL 4 (.t 0)),
 mi 2 0] [1])
 (.seq (.reg none [mi 3 1] [1, 3])
 (.seq (.seq (.reg none [lm 6 4 1,
 c1 7 69 6,
 no 8 7] [1, 3, 8])
 (.cond (.t 8) (.seq (.reg none [mv 9 3,
 mv 2 9] [2])
 .ret)
 .skip))
 (.join [(3, false)] (.seq (.reg none [mi 4 0] [1, 3, 4])
 (.block 0 (.loop [(1, false), (3, false), (4, false)] (.seq (.seq (.reg none [mv 10 4,
 fa 11 3 1,
 ld 12 1 11,
 le 13 0 12,
 bt 14 .lss 10 13] [1, 3, 4, 14])
 (.cond (.t 14) .skip
 (.exit 0)))
 (.join [(1, false), (3, false), (4, false)] (.block 1 (.seq (.reg none [fa 17 3 1,
 ld 18 1 17,
 mv 19 4,
 ia 20 [.int .i64 0, .int .i64 0, .str [], .sl false 4 0 []] 18 19,
 lm 21 4 20,
 c1 22 40 21,
 bn 23 .add 22 1,
 mv 5 23] [1, 3, 4, 5])
 (.seq (.reg none [mv 24 5,
 mv 25 3,
 bt 26 .gtr 24 25] [1, 3, 4, 5, 26])
 (.cond (.t 26) (.reg none [mv 27 5,
 mv 3 27] [1, 3, 4])
 .skip))))
 (.reg none [mv 15 4,
 bn 16 .add 15 1,
 mv 4 16] [1, 3, 4]))))))
 (.seq (.reg none [mv 28 3,
 mv 2 28] [2])
 .ret)))))
def res_ref11_Depth : List IRes := [⟨2, true, none⟩]
theorem is_ref11_Depth : fnIs Go.Proofs.Tryz.prog 40 29 res_ref11_Depth ir_ref11_Depth = true := by kernel_rfl
theorem ref11_Depth_fn {fuel : Nat} : ∀ {v_0 : api_Value} {s : Store} {Q : List AV → Store → Prop} , ok (ref11_Depth fuel v_0) (fun r => Q [.int .i64 r] s) → FN Go.Proofs.Tryz.prog 40 [.agg [.int .i64 v_0.Kind, .int .i64 v_0.N, .str v_0.S.b, .sl false 4 v_0.L.length (flat v_0.L)]] s Q := by
 induction fuel with
 | zero => intros; rename_i h; rw [ref11_Depth] at h; exact absurd h (by rw [ok_none]; exact fun h => h)
 | succ fuel ih =>
 have ihfe : ∀ {v_0 : api_Value} {s : Store} {r : Int} , ref11_Depth fuel v_0 = some r → FE Go.Proofs.Tryz.prog 40 [.agg [.int .i64 v_0.Kind, .int .i64 v_0.N, .str v_0.S.b, .sl false 4 v_0.L.length (flat v_0.L)]] s [.int .i64 r] s := fun  h => ih  ⟨_, h, rfl, rfl⟩
 intro v_0  s Q 
 intro h
 refine FN.of (draw_ok mix) is_ref11_Depth rfl (Nat.le_of_ble_eq_true rfl) ?_
 revert h
 rw [ir_ref11_Depth, res_ref11_Depth, ref11_Depth]
 repeat' (first
  | with_reducible exact tt_to
  | with_reducible refine and_to ?_ ?_
  | with_reducible refine im_to ?_
  | with_reducible refine call_to (fun _ (h : ref11_holds v_0 = some _) => ref11_holds_fe h) (fun r1 => ?_)
  | with_reducible refine call_to (fun _ (h : ref11_Depth fuel (ix v_0.L k4) = some _) => ihfe h) (fun r9 => ?_)
  | ((with_reducible refine join_to (live := [(1, false), (3, false), (4, false)]) (fun (n7 : Int) => ⟨[(1, .loc [.int .i64 v_0.Kind, .int .i64 v_0.N, .str v_0.S.b, .sl false 4 v_0.L.length (flat v_0.L)]), (3, .int .i64 n7), (4, .int .i64 k4)], [], s⟩) (fun J => ?_) ?_); rotate_left; rintro n7)
  | ((with_reducible refine iter_to (fun ((n3, k4) : Int × Int) => ⟨[(1, .loc [.int .i64 v_0.Kind, .int .i64 v_0.N, .str v_0.S.b, .sl false 4 v_0.L.length (flat v_0.L)]), (3, .int .i64 n3), (4, .int .i64 k4)], [], s⟩) ?_ ?_); (first | exact rfl | simp -implicitDefEqProofs only [go_sem, seval]); rintro J ⟨n3, k4⟩)
  | ((with_reducible refine join_to (live := [(3, false)]) (fun (n2 : Int) => ⟨[(3, .int .i64 n2)], [], s⟩) (fun J => ?_) ?_); rotate_left; rintro n2)
  | simp -implicitDefEqProofs only [go_sem, seval])
theorem ref11_Depth_fe {fuel : Nat} {v_0} {s : Store} {r : Int}  (h : ref11_Depth fuel v_0 = some r) : FE Go.Proofs.Tryz.prog 40 [.agg [.int .i64 v_0.Kind, .int .i64 v_0.N, .str v_0.S.b, .sl false 4 v_0.L.length (flat v_0.L)]] s [.int .i64 r] s := ref11_Depth_fn  ⟨r, h, rfl, rfl⟩
def ref09_Check (v_0 : api_Value) : Option (Int) :=
 if (!(v_0.S.b == (Str.mk []).b)) || ((v_0.L.length : Int) != 0) then
  some 2
 else
  if ((v_0.Kind == 2) && (decide (v_0.N ≥ (-2147483647)))) && (decide (v_0.N ≤ 2147483647)) then
   some 0
  else
   if ((v_0.Kind == 3) && (decide (v_0.N ≥ (-2147483647000000)))) && (decide (v_0.N ≤ 2147483647000000)) then
    some 0
   else
    some 2
def ir_ref09_Check : IC :=
 (.seq (.reg none [i1 1 (.boxL 4 (.t 0)),
 mi 2 0] [1])
 (.seq (.seq (.reg none [fa 3 2 1,
 ld 4 1 3,
 i1 5 (.bin .neq (.t 4) (.c (.str []))),
 mv 6 5,
 fg 7 6 false 3 1,
 lg 8 6 false 1 7,
 i1g 9 6 false (.len 0 (.t 8)),
 i1g 10 6 false (.bin .neq (.t 9) (.c (.int .i64 0))),
 po 11 6 10] [1, 11])
 (.cond (.t 11) (.seq (.reg none [mi 2 2] [2])
 .ret)
 .skip))
 (.seq (.seq (.reg none [fa 12 0 1,
 ld 13 1 12,
 bn 14 .eql 13 2,
 mv 15 14,
 fg 16 15 true 1 1,
 lg 17 15 true 1 16,
 i1g 18 15 true (.bin .geq (.t 17) (.c (.int .i64 (-2147483647)))),
 pf 19 15 18,
 mv 20 19,
 fg 21 20 true 1 1,
 lg 22 20 true 1 21,
 i1g 23 20 true (.bin .leq (.t 22) (.c (.int .i64 2147483647))),
 pf 24 20 23] [1, 24])
 (.cond (.t 24) (.seq (.reg none [mi 2 0] [2])
 .ret)
 .skip))
 (.seq (.seq (.reg none [fa 25 0 1,
 ld 26 1 25,
 bn 27 .eql 26 3,
 mv 28 27,
 fg 29 28 true 1 1,
 lg 30 28 true 1 29,
 i1g 31 28 true (.bin .geq (.t 30) (.c (.int .i64 (-2147483647000000)))),
 pf 32 28 31,
 mv 33 32,
 fg 34 33 true 1 1,
 lg 35 33 true 1 34,
 i1g 36 33 true (.bin .leq (.t 35) (.c (.int .i64 2147483647000000))),
 pf 37 33 36] [37])
 (.cond (.t 37) (.seq (.reg none [mi 2 0] [2])
 .ret)
 .skip))
 (.seq (.reg none [mi 2 2] [2])
 .ret)))))
def res_ref09_Check : List IRes := [⟨2, true, none⟩]
theorem is_ref09_Check : fnIs Go.Proofs.Tryz.prog 107 38 res_ref09_Check ir_ref09_Check = true := by kernel_rfl
theorem ref09_Check_fn {v_0} {s : Store} {Q : List AV → Store → Prop}  : ok (ref09_Check v_0) (fun r => Q [.int .i64 r] s) → FN Go.Proofs.Tryz.prog 107 [.agg [.int .i64 v_0.Kind, .int .i64 v_0.N, .str v_0.S.b, .sl false 4 v_0.L.length (flat v_0.L)]] s Q := by
 intro h
 refine FN.of (draw_ok mix) is_ref09_Check rfl (Nat.le_of_ble_eq_true rfl) ?_
 revert h
 rw [ir_ref09_Check, res_ref09_Check, ref09_Check]
 repeat' (first
  | simp -implicitDefEqProofs only [go_sem, seval])
theorem ref09_Check_fe {v_0} {s : Store} {r : Int}  (h : ref09_Check v_0 = some r) : FE Go.Proofs.Tryz.prog 107 [.agg [.int .i64 v_0.Kind, .int .i64 v_0.N, .str v_0.S.b, .sl false 4 v_0.L.length (flat v_0.L)]] s [.int .i64 r] s := ref09_Check_fn  ⟨r, h, rfl, rfl⟩
def ref11_Text (s_0 : Str) : Option (Bool) :=
 jnS (
  bndS (
   iter (fun (k3 : Int) =>
    if decide (k3 < (s_0.b.length : Int)) then
     need (0 ≤ k3 ∧ k3 < s_0.b.length) <|
     if ((ix s_0.b k3).toNat : Int) == 0 then
      some (.inr (.inr false))
     else
      some (.inl (w64 (k3 + 1)))
    else
     some (.inr (.inl ()))) 0) (fun (_ : Unit) =>
   some (.inl ()))
  (fun (t5 : Bool) => some (.inr t5))) (fun (_ : Unit) =>
  some (decide ((s_0.b.length : Int) ≤ 127)))
 (fun (t2 : Bool) => some t2)
def ir_ref11_Text : IC :=
 (.seq (.reg none [mkk 2 (.bool false)] [0])
 (.join [(0, false)] (.seq (.reg none [mi 3 0] [0, 3])
 (.block 0 (.loop [(0, false), (3, false)] (.seq (.seq (.reg none [mv 4 3,
 mv 5 0,
 le 6 1 5,
 bt 7 .lss 4 6] [0, 3, 7])
 (.cond (.t 7) .skip
 (.exit 0)))
 (.seq (.block 1 (.seq (.reg none [mv 10 0,
 mv 11 3,
 i1 12 (.sindex (.t 10) (.t 11)),
 bu 13 .eql 12 0] [0, 3, 13])
 (.cond (.t 13) (.seq (.reg none [mkk 2 (.bool false)] [2])
 .ret)
 .skip)))
 (.reg none [mv 8 3,
 bn 9 .add 8 1,
 mv 3 9] [0, 3]))))))
 (.seq (.reg none [mv 14 0,
 le 15 1 14,
 bn 16 .leq 15 127,
 mv 2 16] [2])
 .ret)))
def res_ref11_Text : List IRes := [⟨2, true, none⟩]
theorem is_ref11_Text : fnIs Go.Proofs.Tryz.prog 108 17 res_ref11_Text ir_ref11_Text = true := by kernel_rfl
theorem ref11_Text_fn {s_0} {s : Store} {Q : List AV → Store → Prop}  : ok (ref11_Text s_0) (fun r => Q [.bool r] s) → FN Go.Proofs.Tryz.prog 108 [.str s_0.b] s Q := by
 intro h
 refine FN.of (draw_ok mix) is_ref11_Text rfl (Nat.le_of_ble_eq_true rfl) ?_
 revert h
 rw [ir_ref11_Text, res_ref11_Text, ref11_Text]
 repeat' (first
  | ((with_reducible refine iter_to (fun (k3 : Int) => ⟨[(0, .str s_0.b), (3, .int .i64 k3)], [], s⟩) ?_ ?_); (first | exact rfl | simp -implicitDefEqProofs only [go_sem, seval]); rintro J k3)
  | ((with_reducible refine join_toS (fun (_ : Unit) => ⟨[(0, .str s_0.b)], [], s⟩) (fun J => ?_) ?_); rotate_left; rintro _)
  | simp -implicitDefEqProofs only [go_sem, seval])
theorem ref11_Text_fe {s_0} {s : Store} {r : Bool}  (h : ref11_Text s_0 = some r) : FE Go.Proofs.Tryz.prog 108 [.str s_0.b] s [.bool r] s := ref11_Text_fn  ⟨r, h, rfl, rfl⟩
def ref11_dict (v_0 : api_Value) : Option (Int) :=
 if ((v_0.N != 0) || (!(v_0.S.b == (Str.mk []).b))) || ((Int.tmod (v_0.L.length : Int) 2) != 0) then
  some 2
 else
  jnS (
   bndS (
    iter (fun (k3 : Int) =>
     if decide (k3 < (v_0.L.length : Int)) then
      need (0 ≤ k3 ∧ k3 < v_0.L.length) <|
      if ((ix v_0.L k3).Kind) != 5 then
       some (.inr (.inr (2 : Int)))
      else
       some (.inl (w64 (k3 + 2)))
     else
      some (.inr (.inl ()))) 0) (fun (_ : Unit) =>
    some (.inl ()))
   (fun (t5 : Int) => some (.inr t5))) (fun (_ : Unit) =>
   jnS (
    bndS (
     iter (fun (k7 : Int) =>
      if decide (k7 < (v_0.L.length : Int)) then
       need (0 ≤ k7 ∧ k7 < v_0.L.length) <|
       need (0 ≤ w64 (k7 - 2) ∧ w64 (k7 - 2) < v_0.L.length) <|
       if (Op.bytesLess ((ix v_0.L k7).S).b ((ix v_0.L (w64 (k7 - 2))).S).b) || (((ix v_0.L k7).S).b == ((ix v_0.L (w64 (k7 - 2))).S).b) then
        some (.inr (.inr (16 : Int)))
       else
        some (.inl (w64 (k7 + 2)))
      else
       some (.inr (.inl ()))) 2) (fun (_ : Unit) =>
     some (.inl ()))
    (fun (t8 : Int) => some (.inr t8))) (fun (_ : Unit) =>
    some 0)
   (fun (t6 : Int) => some t6))
  (fun (t2 : Int) => some t2)
def ir_ref11_dict : IC :=
 (.seq (.reg none [i1 1 (.boxL 4 (.t 0)),
 mi 2 0] [1])
 (.seq (.seq (.reg none [fa 5 1 1,
 ld 6 1 5,
 bn 7 .neq 6 0,
 mv 8 7,
 fg 9 8 false 2 1,
 lg 10 8 false 1 9,
 i1g 11 8 false (.bin .neq (.t 10) (.c (.str []))),
 po 12 8 11,
 mv 13 12,
 fg 14 13 false 3 1,
 lg 15 13 false 1 14,
 i1g 16 13 false (.len 0 (.t 15)),
 i1g 17 13 false (.bin .rem (.t 16) (.c (.int .i64 2))),
 i1g 18 13 false (.bin .neq (.t 17) (.c (.int .i64 0))),
 po 19 13 18] [1, 19])
 (.cond (.t 19) (.seq (.reg none [mi 2 2] [2])
 .ret)
 .skip))
 (.join [(1, false)] (.seq (.reg none [mi 3 0] [1, 3])
 (.block 0 (.loop [(1, false), (3, false)] (.seq (.seq (.reg none [mv 20 3,
 fa 21 3 1,
 ld 22 1 21,
 le 23 0 22,
 bt 24 .lss 20 23] [1, 3, 24])
 (.cond (.t 24) .skip
 (.exit 0)))
 (.seq (.block 1 (.seq (.reg none [fa 27 3 1,
 ld 28 1 27,
 mv 29 3,
 ia 30 [.int .i64 0, .int .i64 0, .str [], .sl false 4 0 []] 28 29,
 fa 31 0 30,
 ld 32 1 31,
 bn 33 .neq 32 5] [1, 3, 33])
 (.cond (.t 33) (.seq (.reg none [mi 2 2] [2])
 .ret)
 .skip)))
 (.reg none [mv 25 3,
 bn 26 .add 25 2,
 mv 3 26] [1, 3]))))))
 (.join [] (.seq (.reg none [mi 4 2] [1, 4])
 (.block 2 (.loop [(1, false), (4, false)] (.seq (.seq (.reg none [mv 34 4,
 fa 35 3 1,
 ld 36 1 35,
 le 37 0 36,
 bt 38 .lss 34 37] [1, 4, 38])
 (.cond (.t 38) .skip
 (.exit 2)))
 (.seq (.block 3 (.seq (.reg (some 14) [fa 41 3 1,
 ld 42 1 41,
 mv 43 4,
 ia 44 [.int .i64 0, .int .i64 0, .str [], .sl false 4 0 []] 42 43,
 fa 45 2 44,
 ld 46 1 45,
 fa 47 3 1,
 ld 48 1 47,
 mv 49 4,
 bn 50 .sub 49 2,
 ia 51 [.int .i64 0, .int .i64 0, .str [], .sl false 4 0 []] 48 50,
 fa 52 2 51,
 ld 53 1 52,
 bt 54 .leq 46 53] [1, 4, 54])
 (.cond (.t 54) (.seq (.reg none [mi 2 16] [2])
 .ret)
 .skip)))
 (.reg none [mv 39 4,
 bn 40 .add 39 2,
 mv 4 40] [1, 4]))))))
 (.seq (.reg none [mi 2 0] [2])
 .ret)))))
def res_ref11_dict : List IRes := [⟨2, true, none⟩]
theorem is_ref11_dict : fnIs Go.Proofs.Tryz.prog 109 55 res_ref11_dict ir_ref11_dict = true := by kernel_rfl
theorem ref11_dict_fn {v_0} {s : Store} {Q : List AV → Store → Prop}  : ok (ref11_dict v_0) (fun r => Q [.int .i64 r] s) → FN Go.Proofs.Tryz.prog 109 [.agg [.int .i64 v_0.Kind, .int .i64 v_0.N, .str v_0.S.b, .sl false 4 v_0.L.length (flat v_0.L)]] s Q := by
 intro h
 refine FN.of (draw_ok mix) is_ref11_dict rfl (Nat.le_of_ble_eq_true rfl) ?_
 revert h
 rw [ir_ref11_dict, res_ref11_dict, ref11_dict]
 repeat' (first
  | with_reducible exact tt_to
  | with_reducible refine and_to ?_ ?_
  | with_reducible refine im_to ?_
  | ((with_reducible refine iter_to (fun (k3 : Int) => ⟨[(1, .loc [.int .i64 v_0.Kind, .int .i64 v_0.N, .str v_0.S.b, .sl false 4 v_0.L.length (flat v_0.L)]), (3, .int .i64 k3)], [], s⟩) ?_ ?_); (first | exact rfl | simp -implicitDefEqProofs only [go_sem, seval]); rintro J k3)
  | ((with_reducible refine join_toS (live := [(1, false)]) (fun (_ : Unit) => ⟨[(1, .loc [.int .i64 v_0.Kind, .int .i64 v_0.N, .str v_0.S.b, .sl false 4 v_0.L.length (flat v_0.L)])], [], s⟩) (fun J => ?_) ?_); rotate_left; rintro _)
  | ((with_reducible refine iter_to (fun (k7 : Int) => ⟨[(1, .loc [.int .i64 v_0.Kind, .int .i64 v_0.N, .str v_0.S.b, .sl false 4 v_0.L.length (flat v_0.L)]), (4, .int .i64 k7)], [], s⟩) ?_ ?_); (first | exact rfl | simp -implicitDefEqProofs only [go_sem, seval]); rintro J k7)
  | ((with_reducible refine join_toS (live := []) (fun (_ : Unit) => ⟨[], [], s⟩) (fun J => ?_) ?_); rotate_left; rintro _)
  | simp -implicitDefEqProofs only [go_sem, seval])
theorem ref11_dict_fe {v_0} {s : Store} {r : Int}  (h : ref11_dict v_0 = some r) : FE Go.Proofs.Tryz.prog 109 [.agg [.int .i64 v_0.Kind, .int .i64 v_0.N, .str v_0.S.b, .sl false 4 v_0.L.length (flat v_0.L)]] s [.int .i64 r] s := ref11_dict_fn  ⟨r, h, rfl, rfl⟩
def ref11_own (v_0 : api_Value) : Option (Int) :=
 jnS (
  if v_0.Kind == 0 then
   if ((v_0.S.b == (Str.mk []).b) && ((v_0.L.length : Int) == 0)) && (v_0.N == 0) then
    some (.inr (0 : Int))
   else
    some (.inl ())
  else
   if v_0.Kind == 1 then
    if ((v_0.S.b == (Str.mk []).b) && ((v_0.L.length : Int) == 0)) && ((v_0.N == 0) || (v_0.N == 1)) then
     some (.inr (0 : Int))
    else
     some (.inl ())
   else
    jn (
     if v_0.Kind == 2 then
      some ((v_0.S.b == (Str.mk []).b) && ((v_0.L.length : Int) == 0), v_0.Kind == 2)
     else
      some ((v_0.S.b == (Str.mk []).b) && ((v_0.L.length : Int) == 0), v_0.Kind == 3)) fun ((bare3, t5) : Bool × Bool) =>
    if t5 then
     bnd (ref09_Check v_0) fun r6 =>
     some (.inr r6)
    else
     if v_0.Kind == 4 then
      if (v_0.N == 0) && ((v_0.L.length : Int) == 0) then
       some (.inr (0 : Int))
      else
       some (.inl ())
     else
      if v_0.Kind == 5 then
       bnd (ref11_Text v_0.S) fun r7 =>
       if !r7 then
        some (.inr (17 : Int))
       else
        if (v_0.N == 0) && ((v_0.L.length : Int) == 0) then
         some (.inr (0 : Int))
        else
         some (.inl ())
      else
       if v_0.Kind == 6 then
        if (v_0.N == 0) && (v_0.S.b == (Str.mk []).b) then
         some (.inr (0 : Int))
        else
         some (.inl ())
       else
        if v_0.Kind == 7 then
         bnd (ref11_dict v_0) fun r8 =>
         some (.inr r8)
        else
         if v_0.Kind == 8 then
          if (bare3 && (decide (v_0.N ≥ 1))) && (decide (v_0.N ≤ 4096)) then
           some (.inr (0 : Int))
          else
           some (.inl ())
         else
          some (.inl ())) (fun (_ : Unit) =>
  some 2)
 (fun (t1 : Int) => some t1)
def ir_ref11_own : IC :=
 (.seq (.reg none [i1 1 (.boxL 4 (.t 0)),
 mi 2 0] [1])
 (.seq (.reg none [fa 4 2 1,
 ld 5 1 4,
 i1 6 (.bin .eql (.t 5) (.c (.str []))),
 mv 7 6,
 fg 8 7 true 3 1,
 lg 9 7 true 1 8,
 i1g 10 7 true (.len 0 (.t 9)),
 i1g 11 7 true (.bin .eql (.t 10) (.c (.int .i64 0))),
 pf 12 7 11,
 mv 3 12] [1, 3])
 (.join [] (.seq (.reg none [fa 13 0 1,
 ld 14 1 13] [1, 3, 14])
 (.block 0 (.seq (.reg none [bn 16 .eql 14 0,
 mv 15 16] [1, 3, 14, 15])
 (.cond (.t 15) (.seq (.reg none [mv 17 3,
 mv 18 17,
 fg 19 18 true 1 1,
 lg 20 18 true 1 19,
 i1g 21 18 true (.bin .eql (.t 20) (.c (.int .i64 0))),
 pf 22 18 21] [22])
 (.cond (.t 22) (.seq (.reg none [mi 2 0] [2])
 .ret)
 .skip))
 (.seq (.reg none [bn 24 .eql 14 1,
 mv 23 24] [1, 3, 14, 23])
 (.cond (.t 23) (.seq (.reg none [mv 25 3,
 mv 26 25,
 fg 27 26 true 1 1,
 lg 28 26 true 1 27,
 i1g 29 26 true (.bin .eql (.t 28) (.c (.int .i64 0))),
 mvg 30 29 26 true,
 fg 31 30 false 1 1,
 lg 32 30 false 1 31,
 i1g 33 30 false (.bin .eql (.t 32) (.c (.int .i64 1))),
 i1g 34 26 true (.pick (.t 30) (.c (.bool true)) (.t 33)),
 pf 35 26 34] [35])
 (.cond (.t 35) (.seq (.reg none [mi 2 0] [2])
 .ret)
 .skip))
 (.join [(1, false), (3, false), (14, false), (36, false)] (.seq (.reg none [bn 37 .eql 14 2,
 mv 36 37] [1, 3, 14, 36])
 (.cond (.t 36) .skip
 (.reg none [bn 38 .eql 14 3,
 mv 36 38] [1, 3, 14, 36])))
 (.cond (.t 36) (.seq (.reg none [lm 39 4 1,
 c1 40 107 39,
 mv 2 40] [2])
 .ret)
 (.seq (.reg none [bn 42 .eql 14 4,
 mv 41 42] [1, 3, 14, 41])
 (.cond (.t 41) (.seq (.reg none [fa 43 1 1,
 ld 44 1 43,
 bn 45 .eql 44 0,
 mv 46 45,
 fg 47 46 true 3 1,
 lg 48 46 true 1 47,
 i1g 49 46 true (.len 0 (.t 48)),
 i1g 50 46 true (.bin .eql (.t 49) (.c (.int .i64 0))),
 pf 51 46 50] [51])
 (.cond (.t 51) (.seq (.reg none [mi 2 0] [2])
 .ret)
 .skip))
 (.seq (.reg none [bn 53 .eql 14 5,
 mv 52 53] [1, 3, 14, 52])
 (.cond (.t 52) (.seq (.seq (.reg none [fa 54 2 1,
 ld 55 1 54,
 c1 56 108 55,
 no 57 56] [1, 57])
 (.cond (.t 57) (.seq (.reg none [mi 2 17] [2])
 .ret)
 .skip))
 (.seq (.reg none [fa 58 1 1,
 ld 59 1 58,
 bn 60 .eql 59 0,
 mv 61 60,
 fg 62 61 true 3 1,
 lg 63 61 true 1 62,
 i1g 64 61 true (.len 0 (.t 63)),
 i1g 65 61 true (.bin .eql (.t 64) (.c (.int .i64 0))),
 pf 66 61 65] [66])
 (.cond (.t 66) (.seq (.reg none [mi 2 0] [2])
 .ret)
 .skip)))
 (.seq (.reg none [bn 68 .eql 14 6,
 mv 67 68] [1, 3, 14, 67])
 (.cond (.t 67) (.seq (.reg none [fa 69 1 1,
 ld 70 1 69,
 bn 71 .eql 70 0,
 mv 72 71,
 fg 73 72 true 2 1,
 lg 74 72 true 1 73,
 i1g 75 72 true (.bin .eql (.t 74) (.c (.str []))),
 pf 76 72 75] [76])
 (.cond (.t 76) (.seq (.reg none [mi 2 0] [2])
 .ret)
 .skip))
 (.seq (.reg none [bn 78 .eql 14 7,
 mv 77 78] [1, 3, 14, 77])
 (.cond (.t 77) (.seq (.reg none [lm 79 4 1,
 c1 80 109 79,
 mv 2 80] [2])
 .ret)
 (.seq (.reg none [bn 82 .eql 14 8,
 mv 81 82] [1, 3, 81])
 (.cond (.t 81) (.seq (.reg none [mv 83 3,
 mv 84 83,
 fg 85 84 true 1 1,
 lg 86 84 true 1 85,
 i1g 87 84 true (.bin .geq (.t 86) (.c (.int .i64 1))),
 pf 88 84 87,
 mv 89 88,
 fg 90 89 true 1 1,
 lg 91 89 true 1 90,
 i1g 92 89 true (.bin .leq (.t 91) (.c (.int .i64 4096))),
 pf 93 89 92] [93])
 (.cond (.t 93) (.seq (.reg none [mi 2 0] [2])
 .ret)
 .skip))
 .skip))))))))))))))))))
 (.seq (.reg none [mi 2 2] [2])
 .ret))))
def res_ref11_own : List IRes := [⟨2, true, none⟩]
theorem is_ref11_own : fnIs Go.Proofs.Tryz.prog 70 94 res_ref11_own ir_ref11_own = true := by kernel_rfl
theorem ref11_own_fn {v_0} {s : Store} {Q : List AV → Store → Prop}  : ok (ref11_own v_0) (fun r => Q [.int .i64 r] s) → FN Go.Proofs.Tryz.prog 70 [.agg [.int .i64 v_0.Kind, .int .i64 v_0.N, .str v_0.S.b, .sl false 4 v_0.L.length (flat v_0.L)]] s Q := by
 intro h
 refine FN.of (draw_ok mix) is_ref11_own rfl (Nat.le_of_ble_eq_true rfl) ?_
 revert h
 rw [ir_ref11_own, res_ref11_own, ref11_own]
 repeat' (first
  | with_reducible exact tt_to
  | with_reducible refine and_to ?_ ?_
  | with_reducible refine im_to ?_
  | with_reducible refine call_to (fun _ (h : ref09_Check v_0 = some _) => ref09_Check_fe h) (fun r6 => ?_)
  | with_reducible refine call_to (fun _ (h : ref11_Text v_0.S = some _) => ref11_Text_fe h) (fun r7 => ?_)
  | with_reducible refine call_to (fun _ (h : ref11_dict v_0 = some _) => ref11_dict_fe h) (fun r8 => ?_)
  | ((with_reducible refine join_to (live := [(1, false), (3, false), (14, false), (36, false)]) (fun ((bare3, t5) : Bool × Bool) => ⟨[(1, .loc [.int .i64 v_0.Kind, .int .i64 v_0.N, .str v_0.S.b, .sl false 4 v_0.L.length (flat v_0.L)]), (3, .bool bare3), (14, .int .i64 v_0.Kind), (36, .bool t5)], [], s⟩) (fun J => ?_) ?_); rotate_left; rintro ⟨bare3, t5⟩)
  | ((with_reducible refine join_toS (live := []) (fun (_ : Unit) => ⟨[], [], s⟩) (fun J => ?_) ?_); rotate_left; rintro _)
  | simp -implicitDefEqProofs only [go_sem, seval])
theorem ref11_own_fe {v_0} {s : Store} {r : Int}  (h : ref11_own v_0 = some r) : FE Go.Proofs.Tryz.prog 70 [.agg [.int .i64 v_0.Kind, .int .i64 v_0.N, .str v_0.S.b, .sl false 4 v_0.L.length (flat v_0.L)]] s [.int .i64 r] s := ref11_own_fn  ⟨r, h, rfl, rfl⟩
def ref11_first : Nat → api_Value → Option (Int)
 | 0, _ => none
 | fuel + 1, v_0 =>
  bnd (ref11_own v_0) fun r1 =>
  bnd (whenB (!(r1 != 0)) false (ref11_holds v_0)) fun r2 =>
  if (r1 != 0) || (!r2) then
   some r1
  else
   jnS (
    bndS (
     iter (fun (k4 : Int) =>
      if decide (k4 < (v_0.L.length : Int)) then
       need (0 ≤ k4 ∧ k4 < v_0.L.length) <|
       bnd (ref11_first fuel (ix v_0.L k4)) fun r6 =>
       if r6 != 0 then
        some (.inr (.inr r6))
       else
        some (.inl (w64 (k4 + 1)))
      else
       some (.inr (.inl ()))) 0) (fun (_ : Unit) =>
     some (.inl ()))
    (fun (t5 : Int) => some (.inr t5))) (fun (_ : Unit) =>
    some 0)
   (fun (t3 : Int) => some t3)
def ir_ref11_first : IC :=
 (.seq (.reg none [i1 1 (.boxL 4 (.t 0)),
 mi 2 0] [1])
 (.seq (.reg none [lm 5 4 1,
 c1 6 70 5,
 mv 3 6] [1, 3])
 (.seq (.seq (.reg (some 5) [mv 7 3,
 bn 8 .neq 7 0,
 mv 9 8,
 i1g 10 9 false (.load 4 true (.t 1)),
 i1g 11 9 false (.call 69 [(.t 10)]),
 i1g 12 9 false (.un .not (.t 11)),
 po 13 9 12] [1, 3, 13])
 (.cond (.t 13) (.seq (.reg none [mv 14 3,
 mv 2 14] [2])
 .ret)
 .skip))
 (.join [] (.seq (.reg none [mi 4 0] [1, 4])
 (.block 0 (.loop [(1, false), (4, false)] (.seq (.seq (.reg none [mv 15 4,
 fa 16 3 1,
 ld 17 1 16,
 le 18 0 17,
 bt 19 .lss 15 18] [1, 4, 19])
 (.cond (.t 19) .skip
 (.exit 0)))
 (.seq (.block 1 (.seq (.reg none [fa 22 3 1,
 ld 23 1 22,
 mv 24 4,
 ia 25 [.int .i64 0, .int .i64 0, .str [], .sl false 4 0 []] 23 24,
 lm 26 4 25,
 c1 27 41 26,
 mv 3 27] [1, 3, 4])
 (.seq (.reg none [mv 28 3,
 bn 29 .neq 28 0] [1, 3, 4, 29])
 (.cond (.t 29) (.seq (.reg none [mv 30 3,
 mv 2 30] [2])
 .ret)
 .skip))))
 (.reg none [mv 20 4,
 bn 21 .add 20 1,
 mv 4 21] [1, 4]))))))
 (.seq (.reg none [mi 2 0] [2])
 .ret)))))
def res_ref11_first : List IRes := [⟨2, true, none⟩]
theorem is_ref11_first : fnIs Go.Proofs.Tryz.prog 41 31 res_ref11_first ir_ref11_first = true := by kernel_rfl
theorem ref11_first_fn {fuel : Nat} : ∀ {v_0 : api_Value} {s : Store} {Q : List AV → Store → Prop} , ok (ref11_first fuel v_0) (fun r => Q [.int .i64 r] s) → FN Go.Proofs.Tryz.prog 41 [.agg [.int .i64 v_0.Kind, .int .i64 v_0.N, .str v_0.S.b, .sl false 4 v_0.L.length (flat v_0.L)]] s Q := by
 induction fuel with
 | zero => intros; rename_i h; rw [ref11_first] at h; exact absurd h (by rw [ok_none]; exact fun h => h)
 | succ fuel ih =>
 have ihfe : ∀ {v_0 : api_Value} {s : Store} {r : Int} , ref11_first fuel v_0 = some r → FE Go.Proofs.Tryz.prog 41 [.agg [.int .i64 v_0.Kind, .int .i64 v_0.N, .str v_0.S.b, .sl false 4 v_0.L.length (flat v_0.L)]] s [.int .i64 r] s := fun  h => ih  ⟨_, h, rfl, rfl⟩
 intro v_0  s Q 
 intro h
 refine FN.of (draw_ok mix) is_ref11_first rfl (Nat.le_of_ble_eq_true rfl) ?_
 revert h
 rw [ir_ref11_first, res_ref11_first, ref11_first]
 repeat' (first
  | with_reducible exact tt_to
  | with_reducible refine and_to ?_ ?_
  | with_reducible refine im_to ?_
  | with_reducible refine call_to (fun _ (h : ref11_own v_0 = some _) => ref11_own_fe h) (fun r1 => ?_)
  | with_reducible refine call_to_g rfl (fun _ (h : ref11_holds v_0 = some _) => ref11_holds_fe h) (fun _ => rfl) (fun r2 => ?_)
  | with_reducible refine call_to (fun _ (h : ref11_first fuel (ix v_0.L k4) = some _) => ihfe h) (fun r6 => ?_)
  | ((with_reducible refine iter_to (fun (k4 : Int) => ⟨[(1, .loc [.int .i64 v_0.Kind, .int .i64 v_0.N, .str v_0.S.b, .sl false 4 v_0.L.length (flat v_0.L)]), (4, .int .i64 k4)], [], s⟩) ?_ ?_); (first | exact rfl | simp -implicitDefEqProofs only [go_sem, seval]); rintro J k4)
  | ((with_reducible refine join_toS (fun (_ : Unit) => ⟨[], [], s⟩) (fun J => ?_) ?_); rotate_left; rintro _)
  | simp -implicitDefEqProofs only [go_sem, seval])
theorem ref11_first_fe {fuel : Nat} {v_0} {s : Store} {r : Int}  (h : ref11_first fuel v_0 = some r) : FE Go.Proofs.Tryz.prog 41 [.agg [.int .i64 v_0.Kind, .int .i64 v_0.N, .str v_0.S.b, .sl false 4 v_0.L.length (flat v_0.L)]] s [.int .i64 r] s := ref11_first_fn  ⟨r, h, rfl, rfl⟩
def ref11_Check (v_0 : api_Value) : Option (Int) :=
 bnd (ref11_Depth bigN v_0) fun r1 =>
 if decide (r1 > 64) then
  some 15
 else
  bnd (ref11_first bigN v_0) fun r2 =>
  some r2
def ir_ref11_Check : IC :=
 (.seq (.reg none [i1 1 (.boxL 4 (.t 0)),
 mi 2 0] [1])
 (.seq (.seq (.reg none [lm 3 4 1,
 c1 4 40 3,
 bn 5 .gtr 4 64] [1, 5])
 (.cond (.t 5) (.seq (.reg none [mi 2 15] [2])
 .ret)
 .skip))
 (.seq (.reg none [lm 6 4 1,
 c1 7 41 6,
 mv 2 7] [2])
 .ret)))
def res_ref11_Check : List IRes := [⟨2, true, none⟩]
theorem is_ref11_Check : fnIs Go.Proofs.Tryz.prog 20 8 res_ref11_Check ir_ref11_Check = true := by kernel_rfl
theorem ref11_Check_fn {v_0} {s : Store} {Q : List AV → Store → Prop}  : ok (ref11_Check v_0) (fun r => Q [.int .i64 r] s) → FN Go.Proofs.Tryz.prog 20 [.agg [.int .i64 v_0.Kind, .int .i64 v_0.N, .str v_0.S.b, .sl false 4 v_0.L.length (flat v_0.L)]] s Q := by
 intro h
 refine FN.of (draw_ok mix) is_ref11_Check rfl (Nat.le_of_ble_eq_true rfl) ?_
 revert h
 rw [ir_ref11_Check, res_ref11_Check, ref11_Check]
 repeat' (first
  | with_reducible exact tt_to
  | with_reducible refine and_to ?_ ?_
  | with_reducible refine im_to ?_
  | with_reducible refine call_to (fun _ (h : ref11_Depth bigN v_0 = some _) => ref11_Depth_fe h) (fun r1 => ?_)
  | with_reducible refine call_to (fun _ (h : ref11_first bigN v_0 = some _) => ref11_first_fe h) (fun r2 => ?_)
  | simp -implicitDefEqProofs only [go_sem, seval])
theorem ref11_Check_fe {v_0} {s : Store} {r : Int}  (h : ref11_Check v_0 = some r) : FE Go.Proofs.Tryz.prog 20 [.agg [.int .i64 v_0.Kind, .int .i64 v_0.N, .str v_0.S.b, .sl false 4 v_0.L.length (flat v_0.L)]] s [.int .i64 r] s := ref11_Check_fn  ⟨r, h, rfl, rfl⟩
def ref11_Find (v_0 : api_Value) (key_1 : Str) : Option (Int) :=
 jnS (
  bndS (
   iter (fun (k2 : Int) =>
    if (v_0.Kind == 7) && (decide (k2 < (v_0.L.length : Int))) then
     need (0 ≤ k2 ∧ k2 < v_0.L.length) <|
     need ((((ix v_0.L k2).Kind) == 5) = true → 0 ≤ k2 ∧ k2 < v_0.L.length) <|
     if (((ix v_0.L k2).Kind) == 5) && (((ix v_0.L k2).S).b == key_1.b) then
      some (.inr (.inr k2))
     else
      some (.inl (w64 (k2 + 2)))
    else
     some (.inr (.inl ()))) 0) (fun (_ : Unit) =>
   some (.inl ()))
  (fun (t3 : Int) => some (.inr t3))) (fun (_ : Unit) =>
  some (-1))
 (fun (t1 : Int) => some t1)
def ir_ref11_Find : IC :=
 (.seq (.reg none [i1 2 (.boxL 4 (.t 0)),
 mi 4 0] [1, 2])
 (.join [] (.seq (.reg none [mi 5 0] [1, 2, 5])
 (.block 0 (.loop [(1, false), (2, false), (5, false)] (.seq (.seq (.reg none [fa 6 0 2,
 ld 7 1 6,
 bn 8 .eql 7 7,
 mv 9 8,
 mvg 10 5 9 true,
 fg 11 9 true 3 2,
 lg 12 9 true 1 11,
 i1g 13 9 true (.len 0 (.t 12)),
 i1g 14 9 true (.bin .lss (.t 10) (.t 13)),
 pf 15 9 14] [1, 2, 5, 15])
 (.cond (.t 15) .skip
 (.exit 0)))
 (.seq (.block 1 (.seq (.reg none [fa 18 3 2,
 ld 19 1 18,
 mv 20 5,
 ia 21 [.int .i64 0, .int .i64 0, .str [], .sl false 4 0 []] 19 20,
 fa 22 0 21,
 ld 23 1 22,
 bn 24 .eql 23 5,
 mv 25 24,
 fg 26 25 true 3 2,
 lg 27 25 true 1 26,
 mvg 28 5 25 true,
 i1g 29 25 true (.indexAddr [.int .i64 0, .int .i64 0, .str [], .sl false 4 0 []] (.t 27) (.t 28)),
 fg 30 25 true 2 29,
 lg 31 25 true 1 30,
 mvg 32 1 25 true,
 i1g 33 25 true (.bin .eql (.t 31) (.t 32)),
 pf 34 25 33] [1, 2, 5, 34])
 (.cond (.t 34) (.seq (.reg none [mv 35 5,
 mv 4 35] [4])
 .ret)
 .skip)))
 (.reg none [mv 16 5,
 bn 17 .add 16 2,
 mv 5 17] [1, 2, 5]))))))
 (.seq (.reg none [mi 4 (-1)] [4])
 .ret)))
def res_ref11_Find : List IRes := [⟨4, true, none⟩]
theorem is_ref11_Find : fnIs Go.Proofs.Tryz.prog 21 36 res_ref11_Find ir_ref11_Find = true := by kernel_rfl
theorem ref11_Find_fn {v_0 key_1} {s : Store} {Q : List AV → Store → Prop}  : ok (ref11_Find v_0 key_1) (fun r => Q [.int .i64 r] s) → FN Go.Proofs.Tryz.prog 21 [.agg [.int .i64 v_0.Kind, .int .i64 v_0.N, .str v_0.S.b, .sl false 4 v_0.L.length (flat v_0.L)], .str key_1.b] s Q := by
 intro h
 refine FN.of (draw_ok mix) is_ref11_Find rfl (Nat.le_of_ble_eq_true rfl) ?_
 revert h
 rw [ir_ref11_Find, res_ref11_Find, ref11_Find]
 repeat' (first
  | ((with_reducible refine iter_to (fun (k2 : Int) => ⟨[(1, .str key_1.b), (2, .loc [.int .i64 v_0.Kind, .int .i64 v_0.N, .str v_0.S.b, .sl false 4 v_0.L.length (flat v_0.L)]), (5, .int .i64 k2)], [], s⟩) ?_ ?_); (first | exact rfl | simp -implicitDefEqProofs only [go_sem, seval]); rintro J k2)
  | ((with_reducible refine join_toS (fun (_ : Unit) => ⟨[], [], s⟩) (fun J => ?_) ?_); rotate_left; rintro _)
  | simp -implicitDefEqProofs only [go_sem, seval])
theorem ref11_Find_fe {v_0 key_1} {s : Store} {r : Int}  (h : ref11_Find v_0 key_1 = some r) : FE Go.Proofs.Tryz.prog 21 [.agg [.int .i64 v_0.Kind, .int .i64 v_0.N, .str v_0.S.b, .sl false 4 v_0.L.length (flat v_0.L)], .str key_1.b] s [.int .i64 r] s := ref11_Find_fn  ⟨r, h, rfl, rfl⟩
def ref14_Check (o_0 : api_Object) : Option (Int) :=
 bnd (ref11_Check o_0.V) fun r1 =>
 if r1 != 0 then
  some r1
 else
  if (!o_0.Stream) && (!(o_0.Data.b == (Str.mk []).b)) then
   some 2
  else
   jnS (
    if o_0.Stream then
     bnd (whenB (!(o_0.V.Kind != 7)) 0 (ref11_Find o_0.V (Str.mk [76, 101, 110, 103, 116, 104]))) fun r4 =>
     bnd (whenB (!((o_0.V.Kind != 7) || (decide (r4 ≥ 0)))) 0 (ref11_Find o_0.V (Str.mk [70, 105, 108, 116, 101, 114]))) fun r5 =>
     bnd (whenB (!(((o_0.V.Kind != 7) || (decide (r4 ≥ 0))) || (decide (r5 ≥ 0)))) 0 (ref11_Find o_0.V (Str.mk [68, 101, 99, 111, 100, 101, 80, 97, 114, 109, 115]))) fun r6 =>
     if (((o_0.V.Kind != 7) || (decide (r4 ≥ 0))) || (decide (r5 ≥ 0))) || (decide (r6 ≥ 0)) then
      some (.inr (2 : Int))
     else
      some (.inl ())
    else
     some (.inl ())) (fun (_ : Unit) =>
    if decide ((o_0.Data.b.length : Int) > 16777216) then
     some 3
    else
     some 0)
   (fun (t3 : Int) => some t3)
def ir_ref14_Check : IC :=
 (.seq (.reg none [i1 1 (.boxL 6 (.t 0)),
 mi 2 0] [1])
 (.seq (.reg none [fa 4 0 1,
 lm 5 4 4,
 c1 6 20 5,
 mv 3 6] [1, 3])
 (.seq (.seq (.reg none [mv 7 3,
 bn 8 .neq 7 0] [1, 3, 8])
 (.cond (.t 8) (.seq (.reg none [mv 9 3,
 mv 2 9] [2])
 .ret)
 .skip))
 (.seq (.seq (.reg none [fa 10 4 1,
 ld 11 1 10,
 no 12 11,
 mv 13 12,
 fg 14 13 true 5 1,
 lg 15 13 true 1 14,
 i1g 16 13 true (.bin .neq (.t 15) (.c (.str []))),
 pf 17 13 16] [1, 17])
 (.cond (.t 17) (.seq (.reg none [mi 2 2] [2])
 .ret)
 .skip))
 (.join [(1, false)] (.seq (.reg none [fa 18 4 1,
 ld 19 1 18] [1, 19])
 (.cond (.t 19) (.seq (.reg (some 20) [fa 20 0 1,
 fa 21 0 20,
 ld 22 1 21,
 bn 23 .neq 22 7,
 mv 24 23,
 fg 25 24 false 0 1,
 i1g 26 24 false (.load 4 true (.t 25)),
 i1g 27 24 false (.call 21 [(.t 26), (.c (.str [76, 101, 110, 103, 116, 104]))]),
 i1g 28 24 false (.bin .geq (.t 27) (.c (.int .i64 0))),
 po 29 24 28,
 mv 30 29,
 fg 31 30 false 0 1,
 i1g 32 30 false (.load 4 true (.t 31)),
 i1g 33 30 false (.call 21 [(.t 32), (.c (.str [70, 105, 108, 116, 101, 114]))]),
 i1g 34 30 false (.bin .geq (.t 33) (.c (.int .i64 0))),
 po 35 30 34,
 mv 36 35,
 fg 37 36 false 0 1,
 i1g 38 36 false (.load 4 true (.t 37)),
 i1g 39 36 false (.call 21 [(.t 38), (.c (.str [68, 101, 99, 111, 100, 101, 80, 97, 114, 109, 115]))]),
 i1g 40 36 false (.bin .geq (.t 39) (.c (.int .i64 0))),
 po 41 36 40] [1, 41])
 (.cond (.t 41) (.seq (.reg none [mi 2 2] [2])
 .ret)
 .skip))
 .skip))
 (.seq (.seq (.reg none [fa 42 5 1,
 ld 43 1 42,
 le 44 1 43,
 bn 45 .gtr 44 16777216] [45])
 (.cond (.t 45) (.seq (.reg none [mi 2 3] [2])
 .ret)
 .skip))
 (.seq (.reg none [mi 2 0] [2])
 .ret)))))))
def res_ref14_Check : List IRes := [⟨2, true, none⟩]
theorem is_ref14_Check : fnIs Go.Proofs.Tryz.prog 7 46 res_ref14_Check ir_ref14_Check = true := by kernel_rfl
theorem ref14_Check_fn {o_0} {s : Store} {Q : List AV → Store → Prop}  : ok (ref14_Check o_0) (fun r => Q [.int .i64 r] s) → FN Go.Proofs.Tryz.prog 7 [.agg [.int .i64 o_0.V.Kind, .int .i64 o_0.V.N, .str o_0.V.S.b, .sl false 4 o_0.V.L.length (flat o_0.V.L), .bool o_0.Stream, .str o_0.Data.b]] s Q := by
 intro h
 refine FN.of (draw_ok mix) is_ref14_Check rfl (Nat.le_of_ble_eq_true rfl) ?_
 revert h
 rw [ir_ref14_Check, res_ref14_Check, ref14_Check]
 repeat' (first
  | with_reducible exact tt_to
  | with_reducible refine and_to ?_ ?_
  | with_reducible refine im_to ?_
  | with_reducible refine call_to (fun _ (h : ref11_Check o_0.V = some _) => ref11_Check_fe h) (fun r1 => ?_)
  | with_reducible refine call_to_g rfl (fun _ (h : ref11_Find o_0.V (Str.mk [76, 101, 110, 103, 116, 104]) = some _) => ref11_Find_fe h) (fun _ => rfl) (fun r4 => ?_)
  | with_reducible refine call_to_g rfl (fun _ (h : ref11_Find o_0.V (Str.mk [70, 105, 108, 116, 101, 114]) = some _) => ref11_Find_fe h) (fun _ => rfl) (fun r5 => ?_)
  | with_reducible refine call_to_g rfl (fun _ (h : ref11_Find o_0.V (Str.mk [68, 101, 99, 111, 100, 101, 80, 97, 114, 109, 115]) = some _) => ref11_Find_fe h) (fun _ => rfl) (fun r6 => ?_)
  | ((with_reducible refine join_toS (fun (_ : Unit) => ⟨[(1, .loc [.int .i64 o_0.V.Kind, .int .i64 o_0.V.N, .str o_0.V.S.b, .sl false 4 o_0.V.L.length (flat o_0.V.L), .bool o_0.Stream, .str o_0.Data.b])], [], s⟩) (fun J => ?_) ?_); rotate_left; rintro _)
  | simp -implicitDefEqProofs only [go_sem, seval])
theorem ref14_Check_fe {o_0} {s : Store} {r : Int}  (h : ref14_Check o_0 = some r) : FE Go.Proofs.Tryz.prog 7 [.agg [.int .i64 o_0.V.Kind, .int .i64 o_0.V.N, .str o_0.V.S.b, .sl false 4 o_0.V.L.length (flat o_0.V.L), .bool o_0.Stream, .str o_0.Data.b]] s [.int .i64 r] s := ref14_Check_fn  ⟨r, h, rfl, rfl⟩
def ref11_Compare : Nat → api_Value → api_Value → Option (Int)
 | 0, _, _ => none
 | fuel + 1, a_0, b_1 =>
  if (decide (a_0.Kind < b_1.Kind)) || ((a_0.Kind == b_1.Kind) && ((decide (a_0.N < b_1.N)) || ((a_0.N == b_1.N) && (Op.bytesLess a_0.S.b b_1.S.b)))) then
   some (-1)
  else
   if ((a_0.Kind != b_1.Kind) || (a_0.N != b_1.N)) || (!(a_0.S.b == b_1.S.b)) then
    some 1
   else
    jnS (
     bndS (
      iter (fun (k4 : Int) =>
       if (decide (k4 < (a_0.L.length : Int))) && (decide (k4 < (b_1.L.length : Int))) then
        need (0 ≤ k4 ∧ k4 < a_0.L.length) <|
        need (0 ≤ k4 ∧ k4 < b_1.L.length) <|
        bnd (ref11_Compare fuel (ix a_0.L k4) (ix b_1.L k4)) fun r8 =>
        if r8 != 0 then
         some (.inr (.inr r8))
        else
         some (.inl (w64 (k4 + 1)))
       else
        some (.inr (.inl ()))) 0) (fun (_ : Unit) =>
      some (.inl ()))
     (fun (t7 : Int) => some (.inr t7))) (fun (_ : Unit) =>
     if decide ((a_0.L.length : Int) < (b_1.L.length : Int)) then
      some (-1)
     else
      if decide ((a_0.L.length : Int) > (b_1.L.length : Int)) then
       some 1
      else
       some 0)
    (fun (t3 : Int) => some t3)
def ir_ref11_Compare : IC :=
 (.seq (.reg none [i1 2 (.boxL 4 (.t 0)),
 i1 3 (.boxL 4 (.t 1)),
 mi 4 0] [2, 3])
 (.seq (.block 0 (.seq (.reg none [fa 8 0 2,
 ld 9 1 8,
 fa 10 0 3,
 ld 11 1 10,
 bt 12 .lss 9 11,
 mv 13 12,
 fg 14 13 false 0 2,
 lg 15 13 false 1 14,
 fg 16 13 false 0 3,
 lg 17 13 false 1 16,
 i1g 18 13 false (.bin .eql (.t 15) (.t 17)),
 mvg 19 18 13 false,
 fg 20 19 true 1 2,
 lg 21 19 true 1 20,
 fg 22 19 true 1 3,
 lg 23 19 true 1 22,
 i1g 24 19 true (.bin .lss (.t 21) (.t 23)),
 mvg 25 24 19 true,
 fg 26 25 false 1 2,
 lg 27 25 false 1 26,
 fg 28 25 false 1 3,
 lg 29 25 false 1 28,
 i1g 30 25 false (.bin .eql (.t 27) (.t 29)),
 mvg 31 30 25 false,
 fg 32 31 true 2 2,
 lg 33 31 true 1 32,
 fg 34 31 true 2 3,
 lg 35 31 true 1 34,
 i1g 36 31 true (.bin .lss (.t 33) (.t 35)),
 i1g 37 25 false (.pick (.t 31) (.t 36) (.c (.bool false))),
 i1g 38 19 true (.pick (.t 25) (.c (.bool true)) (.t 37)),
 i1g 39 13 false (.pick (.t 19) (.t 38) (.c (.bool false))),
 po 40 13 39,
 mv 7 40] [2, 3, 7])
 (.cond (.t 7) (.seq (.reg none [mi 4 (-1)] [4])
 .ret)
 (.seq (.reg none [fa 42 0 2,
 ld 43 1 42,
 fa 44 0 3,
 ld 45 1 44,
 bt 46 .neq 43 45,
 mv 47 46,
 fg 48 47 false 1 2,
 lg 49 47 false 1 48,
 fg 50 47 false 1 3,
 lg 51 47 false 1 50,
 i1g 52 47 false (.bin .neq (.t 49) (.t 51)),
 po 53 47 52,
 mv 54 53,
 fg 55 54 false 2 2,
 lg 56 54 false 1 55,
 fg 57 54 false 2 3,
 lg 58 54 false 1 57,
 i1g 59 54 false (.bin .neq (.t 56) (.t 58)),
 po 60 54 59,
 mv 41 60] [2, 3, 41])
 (.cond (.t 41) (.seq (.reg none [mi 4 1] [4])
 .ret)
 .skip)))))
 (.join [(2, false), (3, false)] (.seq (.reg none [mi 5 0] [2, 3, 5])
 (.block 1 (.loop [(2, false), (3, false), (5, false)] (.seq (.seq (.reg none [mv 61 5,
 fa 62 3 2,
 ld 63 1 62,
 le 64 0 63,
 bt 65 .lss 61 64,
 mv 66 65,
 mvg 67 5 66 true,
 fg 68 66 true 3 3,
 lg 69 66 true 1 68,
 i1g 70 66 true (.len 0 (.t 69)),
 i1g 71 66 true (.bin .lss (.t 67) (.t 70)),
 pf 72 66 71] [2, 3, 5, 72])
 (.cond (.t 72) .skip
 (.exit 1)))
 (.seq (.block 2 (.seq (.reg (some 12) [fa 75 3 2,
 ld 76 1 75,
 mv 77 5,
 ia 78 [.int .i64 0, .int .i64 0, .str [], .sl false 4 0 []] 76 77,
 lm 79 4 78,
 fa 80 3 3,
 ld 81 1 80,
 mv 82 5,
 ia 83 [.int .i64 0, .int .i64 0, .str [], .sl false 4 0 []] 81 82,
 lm 84 4 83,
 c2 85 43 79 84,
 mv 6 85] [2, 3, 5, 6])
 (.seq (.reg none [mv 86 6,
 bn 87 .neq 86 0] [2, 3, 5, 6, 87])
 (.cond (.t 87) (.seq (.reg none [mv 88 6,
 mv 4 88] [4])
 .ret)
 .skip))))
 (.reg none [mv 73 5,
 bn 74 .add 73 1,
 mv 5 74] [2, 3, 5]))))))
 (.seq (.seq (.reg none [fa 89 3 2,
 ld 90 1 89,
 le 91 0 90,
 fa 92 3 3,
 ld 93 1 92,
 le 94 0 93,
 bt 95 .lss 91 94] [2, 3, 95])
 (.cond (.t 95) (.seq (.reg none [mi 4 (-1)] [4])
 .ret)
 .skip))
 (.seq (.seq (.reg none [fa 96 3 2,
 ld 97 1 96,
 le 98 0 97,
 fa 99 3 3,
 ld 100 1 99,
 le 101 0 100,
 bt 102 .gtr 98 101] [102])
 (.cond (.t 102) (.seq (.reg none [mi 4 1] [4])
 .ret)
 .skip))
 (.seq (.reg none [mi 4 0] [4])
 .ret))))))
def res_ref11_Compare : List IRes := [⟨4, true, none⟩]
theorem is_ref11_Compare : fnIs Go.Proofs.Tryz.prog 43 103 res_ref11_Compare ir_ref11_Compare = true := by kernel_rfl
theorem ref11_Compare_fn {fuel : Nat} : ∀ {a_0 : api_Value} {b_1 : api_Value} {s : Store} {Q : List AV → Store → Prop} , ok (ref11_Compare fuel a_0 b_1) (fun r => Q [.int .i64 r] s) → FN Go.Proofs.Tryz.prog 43 [.agg [.int .i64 a_0.Kind, .int .i64 a_0.N, .str a_0.S.b, .sl false 4 a_0.L.length (flat a_0.L)], .agg [.int .i64 b_1.Kind, .int .i64 b_1.N, .str b_1.S.b, .sl false 4 b_1.L.length (flat b_1.L)]] s Q := by
 induction fuel with
 | zero => intros; rename_i h; rw [ref11_Compare] at h; exact absurd h (by rw [ok_none]; exact fun h => h)
 | succ fuel ih =>
 have ihfe : ∀ {a_0 : api_Value} {b_1 : api_Value} {s : Store} {r : Int} , ref11_Compare fuel a_0 b_1 = some r → FE Go.Proofs.Tryz.prog 43 [.agg [.int .i64 a_0.Kind, .int .i64 a_0.N, .str a_0.S.b, .sl false 4 a_0.L.length (flat a_0.L)], .agg [.int .i64 b_1.Kind, .int .i64 b_1.N, .str b_1.S.b, .sl false 4 b_1.L.length (flat b_1.L)]] s [.int .i64 r] s := fun  h => ih  ⟨_, h, rfl, rfl⟩
 intro a_0 b_1  s Q 
 intro h
 refine FN.of (draw_ok mix) is_ref11_Compare rfl (Nat.le_of_ble_eq_true rfl) ?_
 revert h
 rw [ir_ref11_Compare, res_ref11_Compare, ref11_Compare]
 repeat' (first
  | with_reducible exact tt_to
  | with_reducible refine and_to ?_ ?_
  | with_reducible refine im_to ?_
  | with_reducible refine call_to_q (fun _ (h : ref11_Compare fuel (ix a_0.L k4) (ix b_1.L k4) = some _) => ihfe h) (fun _ => rfl) (fun r8 => ?_)
  | ((with_reducible refine iter_to (fun (k4 : Int) => ⟨[(2, .loc [.int .i64 a_0.Kind, .int .i64 a_0.N, .str a_0.S.b, .sl false 4 a_0.L.length (flat a_0.L)]), (3, .loc [.int .i64 b_1.Kind, .int .i64 b_1.N, .str b_1.S.b, .sl false 4 b_1.L.length (flat b_1.L)]), (5, .int .i64 k4)], [], s⟩) ?_ ?_); (first | exact rfl | simp -implicitDefEqProofs only [go_sem, seval]); rintro J k4)
  | ((with_reducible refine join_toS (fun (_ : Unit) => ⟨[(2, .loc [.int .i64 a_0.Kind, .int .i64 a_0.N, .str a_0.S.b, .sl false 4 a_0.L.length (flat a_0.L)]), (3, .loc [.int .i64 b_1.Kind, .int .i64 b_1.N, .str b_1.S.b, .sl false 4 b_1.L.length (flat b_1.L)])], [], s⟩) (fun J => ?_) ?_); rotate_left; rintro _)
  | simp -implicitDefEqProofs only [go_sem, seval])
theorem ref11_Compare_fe {fuel : Nat} {a_0 b_1} {s : Store} {r : Int}  (h : ref11_Compare fuel a_0 b_1 = some r) : FE Go.Proofs.Tryz.prog 43 [.agg [.int .i64 a_0.Kind, .int .i64 a_0.N, .str a_0.S.b, .sl false 4 a_0.L.length (flat a_0.L)], .agg [.int .i64 b_1.Kind, .int .i64 b_1.N, .str b_1.S.b, .sl false 4 b_1.L.length (flat b_1.L)]] s [.int .i64 r] s := ref11_Compare_fn  ⟨r, h, rfl, rfl⟩
def ref11_Same (a_0 : api_Value) (b_1 : api_Value) : Option (Bool) :=
 bnd (ref11_Compare bigN a_0 b_1) fun r1 =>
 some (r1 == 0)
def ir_ref11_Same : IC :=
 (.seq (.reg none [i1 2 (.boxL 4 (.t 0)),
 i1 3 (.boxL 4 (.t 1)),
 mkk 4 (.bool false)] [2, 3])
 (.seq (.reg none [lm 5 4 2,
 lm 6 4 3,
 c2 7 43 5 6,
 bn 8 .eql 7 0,
 mv 4 8] [4])
 .ret))
def res_ref11_Same : List IRes := [⟨4, true, none⟩]
theorem is_ref11_Same : fnIs Go.Proofs.Tryz.prog 23 9 res_ref11_Same ir_ref11_Same = true := by kernel_rfl
theorem ref11_Same_fn {a_0 b_1} {s : Store} {Q : List AV → Store → Prop}  : ok (ref11_Same a_0 b_1) (fun r => Q [.bool r] s) → FN Go.Proofs.Tryz.prog 23 [.agg [.int .i64 a_0.Kind, .int .i64 a_0.N, .str a_0.S.b, .sl false 4 a_0.L.length (flat a_0.L)], .agg [.int .i64 b_1.Kind, .int .i64 b_1.N, .str b_1.S.b, .sl false 4 b_1.L.length (flat b_1.L)]] s Q := by
 intro h
 refine FN.of (draw_ok mix) is_ref11_Same rfl (Nat.le_of_ble_eq_true rfl) ?_
 revert h
 rw [ir_ref11_Same, res_ref11_Same, ref11_Same]
 repeat' (first
  | with_reducible refine call_to (fun _ (h : ref11_Compare bigN a_0 b_1 = some _) => ref11_Compare_fe h) (fun r1 => ?_)
  | simp -implicitDefEqProofs only [go_sem, seval])
theorem ref11_Same_fe {a_0 b_1} {s : Store} {r : Bool}  (h : ref11_Same a_0 b_1 = some r) : FE Go.Proofs.Tryz.prog 23 [.agg [.int .i64 a_0.Kind, .int .i64 a_0.N, .str a_0.S.b, .sl false 4 a_0.L.length (flat a_0.L)], .agg [.int .i64 b_1.Kind, .int .i64 b_1.N, .str b_1.S.b, .sl false 4 b_1.L.length (flat b_1.L)]] s [.bool r] s := ref11_Same_fn  ⟨r, h, rfl, rfl⟩
def ref14_Same (a_0 : api_Object) (b_1 : api_Object) : Option (Bool) :=
 bnd (ref11_Same a_0.V b_1.V) fun r1 =>
 some ((r1 && ((a_0.Stream == b_1.Stream) != false)) && (a_0.Data.b == b_1.Data.b))
def ir_ref14_Same : IC :=
 (.seq (.reg none [i1 2 (.boxL 6 (.t 0)),
 i1 3 (.boxL 6 (.t 1)),
 mkk 4 (.bool false)] [2, 3])
 (.seq (.reg none [fa 5 0 2,
 lm 6 4 5,
 fa 7 0 3,
 lm 8 4 7,
 c2 9 23 6 8,
 mv 10 9,
 fg 11 10 true 4 2,
 lg 12 10 true 1 11,
 fg 13 10 true 4 3,
 lg 14 10 true 1 13,
 i1g 15 10 true (.eqB false (.t 12) (.t 14)),
 pf 16 10 15,
 mv 17 16,
 fg 18 17 true 5 2,
 lg 19 17 true 1 18,
 fg 20 17 true 5 3,
 lg 21 17 true 1 20,
 i1g 22 17 true (.bin .eql (.t 19) (.t 21)),
 pf 23 17 22,
 mv 4 23] [4])
 .ret))
def res_ref14_Same : List IRes := [⟨4, true, none⟩]
theorem is_ref14_Same : fnIs Go.Proofs.Tryz.prog 9 24 res_ref14_Same ir_ref14_Same = true := by kernel_rfl
theorem ref14_Same_fn {a_0 b_1} {s : Store} {Q : List AV → Store → Prop}  : ok (ref14_Same a_0 b_1) (fun r => Q [.bool r] s) → FN Go.Proofs.Tryz.prog 9 [.agg [.int .i64 a_0.V.Kind, .int .i64 a_0.V.N, .str a_0.V.S.b, .sl false 4 a_0.V.L.length (flat a_0.V.L), .bool a_0.Stream, .str a_0.Data.b], .agg [.int .i64 b_1.V.Kind, .int .i64 b_1.V.N, .str b_1.V.S.b, .sl false 4 b_1.V.L.length (flat b_1.V.L), .bool b_1.Stream, .str b_1.Data.b]] s Q := by
 intro h
 refine FN.of (draw_ok mix) is_ref14_Same rfl (Nat.le_of_ble_eq_true rfl) ?_
 revert h
 rw [ir_ref14_Same, res_ref14_Same, ref14_Same]
 repeat' (first
  | with_reducible refine call_to (fun _ (h : ref11_Same a_0.V b_1.V = some _) => ref11_Same_fe h) (fun r1 => ?_)
  | simp -implicitDefEqProofs only [go_sem, seval])
theorem ref14_Same_fe {a_0 b_1} {s : Store} {r : Bool}  (h : ref14_Same a_0 b_1 = some r) : FE Go.Proofs.Tryz.prog 9 [.agg [.int .i64 a_0.V.Kind, .int .i64 a_0.V.N, .str a_0.V.S.b, .sl false 4 a_0.V.L.length (flat a_0.V.L), .bool a_0.Stream, .str a_0.Data.b], .agg [.int .i64 b_1.V.Kind, .int .i64 b_1.V.N, .str b_1.V.S.b, .sl false 4 b_1.V.L.length (flat b_1.V.L), .bool b_1.Stream, .str b_1.Data.b]] s [.bool r] s := ref14_Same_fn  ⟨r, h, rfl, rfl⟩
def ref14_texts : Nat → api_Value → Option (Bool)
 | 0, _ => none
 | fuel + 1, v_0 =>
  jnS (
   bndS (
    iter (fun (k3 : Int) =>
     if decide (k3 < (v_0.L.length : Int)) then
      need (0 ≤ k3 ∧ k3 < v_0.L.length) <|
      bnd (ref14_texts fuel (ix v_0.L k3)) fun r6 =>
      if !r6 then
       some (.inr (.inr false))
      else
       some (.inl (w64 (k3 + 1)))
     else
      some (.inr (.inl ()))) 0) (fun (_ : Unit) =>
    some (.inl ()))
   (fun (t5 : Bool) => some (.inr t5))) (fun (_ : Unit) =>
   some (decide ((v_0.S.b.length : Int) ≤ 300)))
  (fun (t2 : Bool) => some t2)
def ir_ref14_texts : IC :=
 (.seq (.reg none [i1 1 (.boxL 4 (.t 0)),
 mkk 2 (.bool false)] [1])
 (.join [(1, false)] (.seq (.reg none [mi 3 0] [1, 3])
 (.block 0 (.loop [(1, false), (3, false)] (.seq (.seq (.reg none [mv 4 3,
 fa 5 3 1,
 ld 6 1 5,
 le 7 0 6,
 bt 8 .lss 4 7] [1, 3, 8])
 (.cond (.t 8) .skip
 (.exit 0)))
 (.seq (.block 1 (.seq (.reg none [fa 11 3 1,
 ld 12 1 11,
 mv 13 3,
 ia 14 [.int .i64 0, .int .i64 0, .str [], .sl false 4 0 []] 12 13,
 lm 15 4 14,
 c1 16 13 15,
 no 17 16] [1, 3, 17])
 (.cond (.t 17) (.seq (.reg none [mkk 2 (.bool false)] [2])
 .ret)
 .skip)))
 (.reg none [mv 9 3,
 bn 10 .add 9 1,
 mv 3 10] [1, 3]))))))
 (.seq (.reg none [fa 18 2 1,
 ld 19 1 18,
 le 20 1 19,
 bn 21 .leq 20 300,
 mv 2 21] [2])
 .ret)))
def res_ref14_texts : List IRes := [⟨2, true, none⟩]
theorem is_ref14_texts : fnIs Go.Proofs.Tryz.prog 13 22 res_ref14_texts ir_ref14_texts = true := by kernel_rfl
theorem ref14_texts_fn {fuel : Nat} : ∀ {v_0 : api_Value} {s : Store} {Q : List AV → Store → Prop} , ok (ref14_texts fuel v_0) (fun r => Q [.bool r] s) → FN Go.Proofs.Tryz.prog 13 [.agg [.int .i64 v_0.Kind, .int .i64 v_0.N, .str v_0.S.b, .sl false 4 v_0.L.length (flat v_0.L)]] s Q := by
 induction fuel with
 | zero => intros; rename_i h; rw [ref14_texts] at h; exact absurd h (by rw [ok_none]; exact fun h => h)
 | succ fuel ih =>
 have ihfe : ∀ {v_0 : api_Value} {s : Store} {r : Bool} , ref14_texts fuel v_0 = some r → FE Go.Proofs.Tryz.prog 13 [.agg [.int .i64 v_0.Kind, .int .i64 v_0.N, .str v_0.S.b, .sl false 4 v_0.L.length (flat v_0.L)]] s [.bool r] s := fun  h => ih  ⟨_, h, rfl, rfl⟩
 intro v_0  s Q 
 intro h
 refine FN.of (draw_ok mix) is_ref14_texts rfl (Nat.le_of_ble_eq_true rfl) ?_
 revert h
 rw [ir_ref14_texts, res_ref14_texts, ref14_texts]
 repeat' (first
  | with_reducible exact tt_to
  | with_reducible refine and_to ?_ ?_
  | with_reducible refine im_to ?_
  | with_reducible refine call_to (fun _ (h : ref14_texts fuel (ix v_0.L k3) = some _) => ihfe h) (fun r6 => ?_)
  | ((with_reducible refine iter_to (fun (k3 : Int) => ⟨[(1, .loc [.int .i64 v_0.Kind, .int .i64 v_0.N, .str v_0.S.b, .sl false 4 v_0.L.length (flat v_0.L)]), (3, .int .i64 k3)], [], s⟩) ?_ ?_); (first | exact rfl | simp -implicitDefEqProofs only [go_sem, seval]); rintro J k3)
  | ((with_reducible refine join_toS (fun (_ : Unit) => ⟨[(1, .loc [.int .i64 v_0.Kind, .int .i64 v_0.N, .str v_0.S.b, .sl false 4 v_0.L.length (flat v_0.L)])], [], s⟩) (fun J => ?_) ?_); rotate_left; rintro _)
  | simp -implicitDefEqProofs only [go_sem, seval])
theorem ref14_texts_fe {fuel : Nat} {v_0} {s : Store} {r : Bool}  (h : ref14_texts fuel v_0 = some r) : FE Go.Proofs.Tryz.prog 13 [.agg [.int .i64 v_0.Kind, .int .i64 v_0.N, .str v_0.S.b, .sl false 4 v_0.L.length (flat v_0.L)]] s [.bool r] s := ref14_texts_fn  ⟨r, h, rfl, rfl⟩
def ref11_Few : Nat → api_Value → Int → Option (Int)
 | 0, _, _ => none
 | fuel + 1, v_0, left_1 =>
  jn (
   iter (fun ((left2, k3) : Int × Int) =>
    if (decide (k3 < (v_0.L.length : Int))) && (decide (left2 ≥ 0)) then
     need (0 ≤ k3 ∧ k3 < v_0.L.length) <|
     bnd (ref11_Few fuel (ix v_0.L k3) left2) fun r5 =>
     some (.inl (r5, w64 (k3 + 1)))
    else
     some (.inr left2)) (w64 (left_1 - 1), 0)) fun (left1 : Int) =>
  some left1
def ir_ref11_Few : IC :=
 (.seq (.reg none [i1 2 (.boxL 4 (.t 0)),
 mi 4 0] [1, 2])
 (.seq (.reg none [mv 6 1,
 bn 7 .sub 6 1,
 mv 1 7] [1, 2])
 (.join [(1, false)] (.seq (.reg none [mi 5 0] [1, 2, 5])
 (.block 0 (.loop [(1, false), (2, false), (5, false)] (.seq (.seq (.reg none [mv 8 5,
 fa 9 3 2,
 ld 10 1 9,
 le 11 0 10,
 bt 12 .lss 8 11,
 mv 13 12,
 mvg 14 1 13 true,
 i1g 15 13 true (.bin .geq (.t 14) (.c (.int .i64 0))),
 pf 16 13 15] [1, 2, 5, 16])
 (.cond (.t 16) .skip
 (.exit 0)))
 (.seq (.block 1 (.reg none [fa 19 3 2,
 ld 20 1 19,
 mv 21 5,
 ia 22 [.int .i64 0, .int .i64 0, .str [], .sl false 4 0 []] 20 21,
 lm 23 4 22,
 mv 24 1,
 c2 25 12 23 24,
 mv 1 25] [1, 2, 5]))
 (.reg none [mv 17 5,
 bn 18 .add 17 1,
 mv 5 18] [1, 2, 5]))))))
 (.seq (.reg none [mv 26 1,
 mv 4 26] [4])
 .ret))))
def res_ref11_Few : List IRes := [⟨4, true, none⟩]
theorem is_ref11_Few : fnIs Go.Proofs.Tryz.prog 12 27 res_ref11_Few ir_ref11_Few = true := by kernel_rfl
theorem ref11_Few_fn {fuel : Nat} : ∀ {v_0 : api_Value} {left_1 : Int} {s : Store} {Q : List AV → Store → Prop} , ok (ref11_Few fuel v_0 left_1) (fun r => Q [.int .i64 r] s) → FN Go.Proofs.Tryz.prog 12 [.agg [.int .i64 v_0.Kind, .int .i64 v_0.N, .str v_0.S.b, .sl false 4 v_0.L.length (flat v_0.L)], .int .i64 left_1] s Q := by
 induction fuel with
 | zero => intros; rename_i h; rw [ref11_Few] at h; exact absurd h (by rw [ok_none]; exact fun h => h)
 | succ fuel ih =>
 have ihfe : ∀ {v_0 : api_Value} {left_1 : Int} {s : Store} {r : Int} , ref11_Few fuel v_0 left_1 = some r → FE Go.Proofs.Tryz.prog 12 [.agg [.int .i64 v_0.Kind, .int .i64 v_0.N, .str v_0.S.b, .sl false 4 v_0.L.length (flat v_0.L)], .int .i64 left_1] s [.int .i64 r] s := fun  h => ih  ⟨_, h, rfl, rfl⟩
 intro v_0 left_1  s Q 
 intro h
 refine FN.of (draw_ok mix) is_ref11_Few rfl (Nat.le_of_ble_eq_true rfl) ?_
 revert h
 rw [ir_ref11_Few, res_ref11_Few, ref11_Few]
 repeat' (first
  | with_reducible exact tt_to
  | with_reducible refine and_to ?_ ?_
  | with_reducible refine im_to ?_
  | with_reducible refine call_to (fun _ (h : ref11_Few fuel (ix v_0.L k3) left2 = some _) => ihfe h) (fun r5 => ?_)
  | ((with_reducible refine iter_to (fun ((left2, k3) : Int × Int) => ⟨[(1, .int .i64 left2), (2, .loc [.int .i64 v_0.Kind, .int .i64 v_0.N, .str v_0.S.b, .sl false 4 v_0.L.length (flat v_0.L)]), (5, .int .i64 k3)], [], s⟩) ?_ ?_); (first | exact rfl | simp -implicitDefEqProofs only [go_sem, seval]); rintro J ⟨left2, k3⟩)
  | ((with_reducible refine join_to (fun (left1 : Int) => ⟨[(1, .int .i64 left1)], [], s⟩) (fun J => ?_) ?_); rotate_left; rintro left1)
  | simp -implicitDefEqProofs only [go_sem, seval])
theorem ref11_Few_fe {fuel : Nat} {v_0 left_1} {s : Store} {r : Int}  (h : ref11_Few fuel v_0 left_1 = some r) : FE Go.Proofs.Tryz.prog 12 [.agg [.int .i64 v_0.Kind, .int .i64 v_0.N, .str v_0.S.b, .sl false 4 v_0.L.length (flat v_0.L)], .int .i64 left_1] s [.int .i64 r] s := ref11_Few_fn  ⟨r, h, rfl, rfl⟩
def ref14_Few (o_0 : api_Object) (data_1 : Int) : Option (Bool) :=
 bnd (ref11_Few bigN o_0.V 300) fun r1 =>
 bnd (whenB ((decide (r1 ≥ 0)) && (decide ((o_0.Data.b.length : Int) ≤ data_1))) false (ref14_texts bigN o_0.V)) fun r2 =>
 some (((decide (r1 ≥ 0)) && (decide ((o_0.Data.b.length : Int) ≤ data_1))) && r2)
def ir_ref14_Few : IC :=
 (.seq (.reg none [i1 2 (.boxL 6 (.t 0)),
 mkk 4 (.bool false)] [1, 2])
 (.seq (.reg (some 15) [fa 5 0 2,
 lm 6 4 5,
 i1 7 (.call 12 [(.t 6), (.c (.int .i64 300))]),
 bn 8 .geq 7 0,
 mv 9 8,
 fg 10 9 true 5 2,
 lg 11 9 true 1 10,
 i1g 12 9 true (.len 1 (.t 11)),
 mvg 13 1 9 true,
 i1g 14 9 true (.bin .leq (.t 12) (.t 13)),
 pf 15 9 14,
 mv 16 15,
 fg 17 16 true 0 2,
 i1g 18 16 true (.load 4 true (.t 17)),
 i1g 19 16 true (.call 13 [(.t 18)]),
 pf 20 16 19,
 mv 4 20] [4])
 .ret))
def res_ref14_Few : List IRes := [⟨4, true, none⟩]
theorem is_ref14_Few : fnIs Go.Proofs.Tryz.prog 4 21 res_ref14_Few ir_ref14_Few = true := by kernel_rfl
theorem ref14_Few_fn {o_0 data_1} {s : Store} {Q : List AV → Store → Prop}  : ok (ref14_Few o_0 data_1) (fun r => Q [.bool r] s) → FN Go.Proofs.Tryz.prog 4 [.agg [.int .i64 o_0.V.Kind, .int .i64 o_0.V.N, .str o_0.V.S.b, .sl false 4 o_0.V.L.length (flat o_0.V.L), .bool o_0.Stream, .str o_0.Data.b], .int .i64 data_1] s Q := by
 intro h
 refine FN.of (draw_ok mix) is_ref14_Few rfl (Nat.le_of_ble_eq_true rfl) ?_
 revert h
 rw [ir_ref14_Few, res_ref14_Few, ref14_Few]
 repeat' (first
  | with_reducible refine call_to_q (fun _ (h : ref11_Few bigN o_0.V 300 = some _) => ref11_Few_fe h) (fun _ => rfl) (fun r1 => ?_)
  | with_reducible refine call_to_g rfl (fun _ (h : ref14_texts bigN o_0.V = some _) => ref14_texts_fe h) (fun _ => rfl) (fun r2 => ?_)
  | simp -implicitDefEqProofs only [go_sem, seval])
theorem ref14_Few_fe {o_0 data_1} {s : Store} {r : Bool}  (h : ref14_Few o_0 data_1 = some r) : FE Go.Proofs.Tryz.prog 4 [.agg [.int .i64 o_0.V.Kind, .int .i64 o_0.V.N, .str o_0.V.S.b, .sl false 4 o_0.V.L.length (flat o_0.V.L), .bool o_0.Stream, .str o_0.Data.b], .int .i64 data_1] s [.bool r] s := ref14_Few_fn  ⟨r, h, rfl, rfl⟩
end Go.AB
end

section
set_option maxRecDepth 4000
namespace Go.AB
open Go
theorem app_rows {α : Type} [Enc α] {σ : St} {d : Option Nat} {K : St → Prop} {sz by' : Nat} {s : Store} {r : RowP} {l : List α} {z : α} {x : List α} (hσ : σ.s = rowS s r l) (h : RowOK s r l) (hz : sz = Enc.w α) (hx : 0 < x.length) (hr : (l.length + x.length) * by' ≤ room)
    (hK : ∀ s' r', Sub s s' → RowOK s' r' (l ++ x) → K ({ σ with s := rowS s' r' (l ++ x) }.put d (rowA r' (l.length + x.length)))) :
    appendAW sz by' (Enc.cells z) σ d K (rowA r l.length) (some (x.length, flat x)) := by
  subst hz
  have hcz : (Enc.cells z).length = Enc.w α := Enc.len z
  have hvz : views (Enc.cells z) = Enc.cells z := Enc.vw z
  have fresh : ∀ (s' : Store) (b' cap' : Nat), s' b' = none → l.length + x.length ≤ cap' → RowOK s' (some (b', cap', flat (List.replicate (cap' - (l.length + x.length)) z))) (l ++ x) := fun s' b' cap' hb hc => by
    refine ⟨hb, by omega, by simpa using hc, ?_, flat_views _⟩
    rw [List.length_append, flat_len, flat_len, List.length_replicate, List.length_append, ← Nat.add_mul]
    congr 1
    omega
  cases r with
  | none =>
    obtain rfl : l = [] := h
    show appendAW (Enc.w α) by' (Enc.cells z) σ d K (.arr 0 0 0 0) _
    refine appendAW_new hcz (olds := []) rfl (by simpa using hx) hr fun b' cap' hb' hc => ?_
    rw [List.nil_append, ← flat_rep]
    rw [hσ] at hb' ⊢
    have := hK s (some (b', cap', flat (List.replicate (cap' - (0 + x.length)) z))) (Sub.refl s) (fresh s b' cap' hb' hc)
    exact this
  | some y =>
    obtain ⟨b, cap, sp⟩ := y
    obtain ⟨h1, h2, h3, h4, h5⟩ := h
    have hs : σ.s b = some (.cells (flat l ++ sp)) := by rw [hσ]; exact set_at
    show appendAW (Enc.w α) by' (Enc.cells z) σ d K (.arr b 0 l.length cap) _
    by_cases hc : l.length + x.length ≤ cap
    · refine appendAW_in hcz hs (by rw [h4, Nat.zero_add]; exact Nat.le_refl _) hc ?_
      have hsp : x.length * Enc.w α ≤ sp.length := by
        rw [List.length_append, flat_len] at h4
        have : (l.length + x.length) * Enc.w α ≤ cap * Enc.w α := Nat.mul_le_mul_right _ hc
        rw [Nat.add_mul] at this
        simp; omega
      have st := row_room l x sp (Enc.w α) rfl hsp
      rw [Nat.zero_add, st]
      have e : σ.s.set b (.cells (flat (l ++ x) ++ sp.drop (x.length * Enc.w α))) = rowS s (some (b, cap, sp.drop (x.length * Enc.w α))) (l ++ x) := by
        rw [hσ]
        show (s.set b _).set b _ = s.set b _
        exact set_set ..
      rw [e]
      refine hK s _ (Sub.refl s) ⟨h1, h2, by simpa using hc, ?_, ?_⟩
      · rw [List.length_append, flat_len] at h4 ⊢
        rw [List.length_drop, List.length_append, Nat.add_mul]
        omega
      · unfold views at h5 ⊢
        rw [List.map_drop, h5]
    · refine appendAW_new hcz (oldsV_arr hs (by
        rw [Nat.zero_add, h4]; exact Nat.mul_le_mul_right _ h3)) (by omega) hr fun b' cap' hb' hc' => ?_
      have ho : views (AB.sub (flat l ++ sp) 0 (l.length * Enc.w α)) = flat l := by
        have := row_sub l sp (Enc.w α) 0 l.length rfl (by omega)
        rw [Nat.zero_mul] at this
        rw [this, List.drop_zero, List.take_length, flat_views]
      rw [ho, ← flat_rep, ← flat_append]
      rw [hσ] at hb' ⊢
      have hb0 : (s.set b (.cells (flat l ++ sp))) b' = none := hb'
      exact hK (s.set b (.cells (flat l ++ sp))) (some (b', cap', flat (List.replicate (cap' - (l.length + x.length)) z))) ((Sub.refl s).set h1) (fresh _ b' cap' hb0 hc')
end Go.AB
end

section
set_option maxRecDepth 4000
namespace Go.AB
open Go
attribute [-go_sem] Nat.add_zero ge_0 part_zero xwp_cons xwpK_eq xalt_cons xalt_nil
def ir_growB0 : IC :=
 (.seq (.reg none [mkk 4 (.arr 0 0 0 0)] [0, 1])
 (.seq (.seq (.reg none [mv 5 1,
 bn 6 .lss 5 0] [0, 1, 6])
 (.cond (.t 6) .dead
 .skip))
 (.seq (.seq (.reg none [mv 8 1,
 mv 9 0,
 i1 10 (.cap (.t 9)),
 mv 11 0,
 le 12 0 11,
 bt 13 .sub 10 12,
 bt 14 .sub 8 13,
 mv 1 14] [0, 1])
 (.seq (.reg none [mv 15 1,
 bn 16 .gtr 15 0] [0, 1, 16])
 (.cond (.t 16) (.reg none [mv 17 0,
 mv 18 0,
 i1 19 (.cap (.t 18)),
 i1 20 (.slice 1 (.t 17) none (some (.t 19)) none),
 mv 21 1,
 i1 22 (.appendZ 1 1 [.int .u8 0] (.t 20) (.t 21)),
 mv 23 0,
 le 24 0 23,
 i1 25 (.slice 1 (.t 22) none (some (.t 24)) none),
 mv 0 25] [0])
 .skip)))
 (.seq (.reg none [mv 26 0,
 mv 4 26] [4])
 .ret))))
def res_growB0 : List IRes := [⟨4, true, none⟩]
theorem is_growB0 : fnIs Go.Proofs.Tryz.prog 46 27 res_growB0 ir_growB0 = true := by kernel_rfl
theorem growB_fn {s : Store} {k : Nat} {Q : List AV → Store → Prop} (hn : k * 1 ≤ room) (hq : ∀ s' r', Sub s s' → RowOK s' r' ([] : List UInt8) → Q [rowA r' 0] (rowS s' r' ([] : List UInt8))) : FN Go.Proofs.Tryz.prog 46 [.arr 0 0 0 0, .int .i64 k] s Q := by
  have hr : room = 140737488355328 := rfl
  refine FN.of (draw_ok mix) is_growB0 rfl (Nat.le_of_ble_eq_true rfl) ?_
  rw [ir_growB0, res_growB0]
  have h0 : decide ((k : Int) < 0) = false := by simp
  have e00 : ((0 : Nat) : Int) = 0 := rfl
  have w1 : w64 0 = 0 := by decide
  have w2 : w64 (k : Int) = k := w64_id (by omega) (by omega)
  simp -implicitDefEqProofs only [go_sem, start, startE, resVs, resV, resC, allV, retK, Nat.reduceBEq, Nat.reduceAdd, Nat.reduceMul, Nat.reduceLeDiff, Nat.reduceEqDiff, Nat.reduceBNe, Nat.ble_eq, UInt8.reduceToNat, UInt32.reduceToNat, h0, e00, w1, w2, Bool.true_eq_false, Bool.false_eq_true, false_implies, true_implies, true_and, and_true]
  refine ⟨fun hk => ?_, fun hk => ?_⟩
  · have hk : 0 < k := by simpa using hk
    refine ⟨Int.le_refl _, ?_⟩
    refine appendZW_new (n := 0) (cap := 0) (m := k) (b := 0) (off := 0) (by' := 1) (olds := []) rfl rfl rfl (by omega) (by omega) fun b' cap' hb' hc => ?_
    rw [List.nil_append]
    simp -implicitDefEqProofs only [go_sem, start, startE, resVs, resV, resC, allV, retK, Nat.reduceBEq, Nat.reduceAdd, Nat.reduceMul, Nat.reduceLeDiff, Nat.reduceEqDiff, Nat.reduceBNe, Nat.ble_eq, UInt8.reduceToNat, UInt32.reduceToNat]
    have := hq s (some (b', cap', flat (List.replicate k (0 : UInt8)) ++ flat (List.replicate (cap' - k) (0 : UInt8)))) (Sub.refl s)
      ⟨hb', by omega, by simp, by
        have e : (flat ([] : List UInt8)).length = 0 := rfl
        rw [List.length_append, e, List.length_append, flat_len, flat_len, List.length_replicate, List.length_replicate, show Enc.w UInt8 = 1 from rfl]
        omega, by rw [← flat_append]; exact flat_views _⟩
    exact ⟨⟨Int.le_refl _, Int.le_refl _, by omega⟩, this⟩
  · have hk : k = 0 := by
      have : ¬ (0 < k) := by simpa using hk
      omega
    have := hq s none (Sub.refl s) rfl
    first | exact this | trace_state
def growB (l : List UInt8) (n : Int) : Option (List UInt8) := need (l = [] ∧ 0 ≤ n ∧ n ≤ 140737488355328) <| some []
theorem growB_fe {l : List UInt8} {n : Int} {s : Store} {r : List UInt8} (h : growB l n = some r) : FE Go.Proofs.Tryz.prog 46 [.arr 0 0 0 0, .int .i64 n] s [.sl true 1 r.length (flat r)] s := by
 unfold growB need at h
 split at h <;> try (cases h; done)
 rename_i hc
 injection h with h
 subst h
 obtain ⟨k, rfl⟩ := Int.eq_ofNat_of_zero_le hc.2.1
 refine FN.row_sl (sz := 1) (cs := []) (n := 0) (s2 := s) rfl rfl ⟨rfl, rfl⟩ (growB_fn (by show k * 1 ≤ 140737488355328; omega) fun s' r' hs hr => ?_)
 cases r' with
 | none => exact .inr ⟨rfl, rfl, hs, 0, rfl⟩
 | some y =>
  obtain ⟨b, cap, sp⟩ := y
  obtain ⟨h1, h2, h3, h4, h5⟩ := hr
  refine .inl ⟨b, cap, sp, rfl, set_at, by omega, Nat.zero_le _, h4, ?_⟩
  have e : (rowS s' (some (b, cap, sp)) ([] : List UInt8)).del b = s' := del_set h1
  rw [e]; exact hs
@[go_sem] theorem part_nat (l : List UInt8) (a b : Nat) : (l.drop a).take (b - a) = part l a b := by unfold part; simp
@[go_sem] theorem nonE_app (l : List UInt8) (c : UInt8) : nonE (l ++ [c]) = true := by cases l <;> rfl
theorem lies_73 : liesB Go.Proofs.Tryz.prog 73 2 0 71 = true := by kernel_rfl
def slices_Concatbyte_byte (slices_0 : (List (List UInt8))) : Option ((List UInt8)) :=
 jn (
  iter (fun ((size3, t4) : Int × Int) =>
   if decide (t4 < (slices_0.length : Int)) then
    need (0 ≤ t4 ∧ t4 < slices_0.length) <|
    if decide (w64 (size3 + ((ix slices_0 t4).length : Int)) < 0) then
     none
    else
     some (.inl (w64 (size3 + ((ix slices_0 t4).length : Int)), w64 (t4 + 1)))
   else
    some (.inr size3)) (0, 0)) fun (size2 : Int) =>
 bnd (growB ([] : List UInt8) size2) fun r7 =>
 jn (
  iter (fun ((newslice9, t10) : (List UInt8) × Int) =>
   if decide (t10 < (slices_0.length : Int)) then
    need (0 ≤ t10 ∧ t10 < slices_0.length) <|
    need ((newslice9.length + (ix slices_0 t10).length) * 1 ≤ room) <|
    some (.inl (newslice9 ++ (ix slices_0 t10), w64 (t10 + 1)))
   else
    some (.inr newslice9)) (r7, 0)) fun (newslice8 : (List UInt8)) =>
 some newslice8
def ir_slices_Concatbyte_byte : IC :=
 (.seq (.reg none [i1 2 (.mov true (.c (.sl true 1 0 [])))] [0])
 (.seq (.reg none [mi 3 0] [0, 3])
 (.join [(0, true), (3, false)] (.seq (.reg none [mv 9 0,
 le 10 0 9,
 mi 11 0] [0, 3, 9, 10, 11])
 (.block 0 (.loop [(0, true), (3, false), (9, true), (10, false), (11, false)] (.seq (.reg none [bt 12 .lss 11 10] [0, 3, 9, 10, 11, 12])
 (.seq (.cond (.t 12) .skip
 (.exit 0))
 (.seq (.block 1 (.seq (.reg none [ia 13 [.sl false 1 0 []] 9 11,
 ld 14 1 13,
 mt 5 14] [0, 3, 5, 9, 10, 11])
 (.seq (.reg none [mv 15 3,
 mt 16 5,
 le 17 0 16,
 bt 18 .add 15 17,
 mv 3 18] [0, 3, 9, 10, 11])
 (.seq (.reg none [mv 19 3,
 bn 20 .lss 19 0] [0, 3, 9, 10, 11, 20])
 (.cond (.t 20) .dead
 .skip)))))
 (.reg none [bn 22 .add 11 1,
 mv 11 22] [0, 3, 9, 10, 11])))))))
 (.seq (.reg none [mv 23 3,
 i1 24 (.call 46 [(.c (.arr 0 0 0 0)), (.t 23)]),
 mt 6 24] [0, 6])
 (.join [(6, false)] (.seq (.reg none [mt 25 0,
 le 26 0 25,
 mi 27 0] [6, 25, 26, 27])
 (.block 2 (.loop [(6, false), (25, true), (26, false), (27, false)] (.seq (.reg none [bt 28 .lss 27 26] [6, 25, 26, 27, 28])
 (.seq (.cond (.t 28) .skip
 (.exit 2))
 (.seq (.block 3 (.seq (.reg none [ia 29 [.sl false 1 0 []] 25 27,
 ld 30 1 29,
 mt 8 30] [6, 8, 25, 26, 27])
 (.reg none [mt 31 6,
 mt 32 8,
 i1 33 (.append 1 1 (.t 31) (.t 32)),
 mt 6 33] [6, 25, 26, 27])))
 (.reg none [bn 34 .add 27 1,
 mv 27 34] [6, 25, 26, 27])))))))
 (.seq (.reg none [mt 35 6,
 mt 2 35] [2])
 .ret))))))
def res_slices_Concatbyte_byte : List IRes := [⟨2, true, none⟩]
theorem is_slices_Concatbyte_byte : fnIs Go.Proofs.Tryz.prog 25 36 res_slices_Concatbyte_byte ir_slices_Concatbyte_byte = true := by kernel_rfl
theorem slices_Concatbyte_byte_fn {slices_0} {s : Store} {Q : List AV → Store → Prop}  : ok (slices_Concatbyte_byte slices_0) (fun r => Q [.sl true 1 r.length (flat r)] s) → FN Go.Proofs.Tryz.prog 25 [.sl false 1 slices_0.length (flat slices_0)] s Q := by
 intro h
 refine FN.of (draw_ok mix) is_slices_Concatbyte_byte rfl (Nat.le_of_ble_eq_true rfl) ?_
 revert h
 rw [ir_slices_Concatbyte_byte, res_slices_Concatbyte_byte, slices_Concatbyte_byte]
 repeat' (first
  | with_reducible refine call_to (fun _ (h : growB ([] : List UInt8) size2 = some _) => growB_fe h) (fun r7 => ?_)
  | ((with_reducible refine iter_to (fun ((size3, t4) : Int × Int) => ⟨[(0, .sl false 1 slices_0.length (flat slices_0)), (3, .int .i64 size3), (9, .sl false 1 slices_0.length (flat slices_0)), (10, .int .i64 (slices_0.length : Int)), (11, .int .i64 t4)], [], s⟩) ?_ ?_); (first | exact rfl | simp -implicitDefEqProofs only [go_sem, seval]); rintro J ⟨size3, t4⟩)
  | ((with_reducible refine join_to (live := [(0, true), (3, false)]) (fun (size2 : Int) => ⟨[(0, .sl false 1 slices_0.length (flat slices_0)), (3, .int .i64 size2)], [], s⟩) (fun J => ?_) ?_); rotate_left; rintro size2)
  | ((with_reducible refine iter_to (fun ((newslice9, t10) : (List UInt8) × Int) => ⟨[(6, .sl true 1 newslice9.length (flat newslice9)), (25, .sl false 1 slices_0.length (flat slices_0)), (26, .int .i64 (slices_0.length : Int)), (27, .int .i64 t10)], [], s⟩) ?_ ?_); (first | exact rfl | simp -implicitDefEqProofs only [go_sem, seval]); rintro J ⟨newslice9, t10⟩)
  | ((with_reducible refine join_to (live := [(6, false)]) (fun (newslice8 : (List UInt8)) => ⟨[(6, .sl true 1 newslice8.length (flat newslice8))], [], s⟩) (fun J => ?_) ?_); rotate_left; rintro newslice8)
  | simp -implicitDefEqProofs only [go_sem, seval])
theorem slices_Concatbyte_byte_fe {slices_0} {s : Store} {r : (List UInt8)}  (h : slices_Concatbyte_byte slices_0 = some r) : FE Go.Proofs.Tryz.prog 25 [.sl false 1 slices_0.length (flat slices_0)] s [.sl true 1 r.length (flat r)] s := slices_Concatbyte_byte_fn  ⟨r, h, rfl, rfl⟩
def value_IntOf (n_0 : Int) : Option (api_Value) :=
 some (api_Value.mk 2 n_0 (Str.mk []) ([] : List api_Value))
def ir_value_IntOf : IC :=
 (.seq (.reg none [i1 2 (.allocL [.int .i64 0, .int .i64 0, .str [], .sl true 4 0 []])] [0, 2])
 (.seq (.reg none [mv 3 0,
 i1 4 (.build [.int .i64 0, .int .i64 0, .str [], .sl true 4 0 []] [(0, 1, (.c (.int .i64 2))), (1, 1, (.t 3))]),
 st 4 2 4] [2])
 .ret))
def res_value_IntOf : List IRes := [⟨2, false, some (4, true)⟩]
theorem is_value_IntOf : fnIs Go.Proofs.Tryz.prog 15 5 res_value_IntOf ir_value_IntOf = true := by kernel_rfl
theorem value_IntOf_fn {n_0} {s : Store} {Q : List AV → Store → Prop}  : ok (value_IntOf n_0) (fun r => Q [.agg [.int .i64 r.Kind, .int .i64 r.N, .str r.S.b, .sl false 4 r.L.length (flat r.L)]] s) → FN Go.Proofs.Tryz.prog 15 [.int .i64 n_0] s Q := by
 intro h
 refine FN.of (draw_ok mix) is_value_IntOf rfl (Nat.le_of_ble_eq_true rfl) ?_
 revert h
 rw [ir_value_IntOf, res_value_IntOf, value_IntOf]
 repeat' (first
  | simp -implicitDefEqProofs only [go_sem, seval])
theorem value_IntOf_fe {n_0} {s : Store} {r : api_Value}  (h : value_IntOf n_0 = some r) : FE Go.Proofs.Tryz.prog 15 [.int .i64 n_0] s [.agg [.int .i64 r.Kind, .int .i64 r.N, .str r.S.b, .sl false 4 r.L.length (flat r.L)]] s := value_IntOf_fn  ⟨r, h, rfl, rfl⟩
def num_text (n_0 : UInt64) : Option (Str) :=
 if decide ((n_0.toNat : Int) < 10) then
  need (0 ≤ (n_0.toNat : Int) ∧ (n_0.toNat : Int) ≤ ((u64w ((n_0.toNat : Int) + 1)).toNat : Int) ∧ ((u64w ((n_0.toNat : Int) + 1)).toNat : Int) ≤ (Str.mk [48, 49, 50, 51, 52, 53, 54, 55, 56, 57]).b.length) <|
  some (Str.mk (part (Str.mk [48, 49, 50, 51, 52, 53, 54, 55, 56, 57]).b (n_0.toNat : Int) ((u64w ((n_0.toNat : Int) + 1)).toNat : Int)))
 else
  none
def ir_num_text : IC :=
 (.seq (.reg none [mkk 2 (.str [])] [0])
 (.seq (.seq (.reg none [mv 3 0,
 i1 4 (.bin .lss (.t 3) (.c (.int .u64 10)))] [0, 4])
 (.cond (.t 4) (.seq (.reg none [mv 5 0,
 mv 6 0,
 i1 7 (.bin .add (.t 6) (.c (.int .u64 1))),
 i1 8 (.sslice (.c (.str [48, 49, 50, 51, 52, 53, 54, 55, 56, 57])) (some (.t 5)) (some (.t 7))),
 mv 2 8] [2])
 .ret)
 .skip))
 .dead))
def res_num_text : List IRes := [⟨2, true, none⟩]
theorem is_num_text : fnIs Go.Proofs.Tryz.prog 113 19 res_num_text ir_num_text = true := by kernel_rfl
theorem num_text_fn {n_0} {s : Store} {Q : List AV → Store → Prop}  : ok (num_text n_0) (fun r => Q [.str r.b] s) → FN Go.Proofs.Tryz.prog 113 [.int .u64 n_0.toNat] s Q := by
 intro h
 refine FN.of (draw_ok mix) is_num_text rfl (Nat.le_of_ble_eq_true rfl) ?_
 revert h
 rw [ir_num_text, res_num_text, num_text]
 repeat' (first
  | simp -implicitDefEqProofs only [go_sem, start, startE, resVs, resV, resC, allV, retK, Nat.reduceBEq, Nat.reduceAdd, Nat.reduceMul, Nat.reduceLeDiff, Nat.reduceEqDiff, Nat.reduceBNe, Nat.ble_eq, UInt8.reduceToNat, UInt32.reduceToNat])
theorem num_text_fe {n_0} {s : Store} {r : Str}  (h : num_text n_0 = some r) : FE Go.Proofs.Tryz.prog 113 [.int .u64 n_0.toNat] s [.str r.b] s := num_text_fn  ⟨r, h, rfl, rfl⟩
def num_Print (v_0 : api_Value) : Option (Str × Int) :=
 bnd (num_Check v_0) fun r1 =>
 if r1 != 0 then
  some ((Str.mk []), r1)
 else
  jn (
   if decide (v_0.N < 0) then
    some ((Str.mk [45]), w64 (0 - v_0.N))
   else
    some ((Str.mk []), v_0.N)) fun ((sign3, n4) : Str × Int) =>
  if v_0.Kind == 2 then
   bnd (num_text (u64w (n4))) fun r5 =>
   need (((sign3.b.length + r5.b.length : Nat) : Int) ≤ hi64) <|
   some (Str.mk (sign3.b ++ r5.b), 0)
  else
   none
def ir_num_Print : IC :=
 (.seq (.reg none [i1 1 (.boxL 4 (.t 0)),
 mkk 2 (.str []),
 mi 3 0] [1])
 (.seq (.seq (.reg none [lm 9 4 1,
 c1 10 66 9,
 mv 4 10] [1, 4])
 (.seq (.reg none [mv 11 4,
 bn 12 .neq 11 0] [1, 4, 12])
 (.cond (.t 12) (.seq (.reg none [mv 13 4,
 mkk 2 (.str []),
 mv 3 13] [2, 3])
 .ret)
 .skip)))
 (.seq (.reg (some 4) [fa 14 1 1,
 ld 15 1 14,
 mkk 5 (.str []),
 mv 6 15] [1, 5, 6])
 (.join [(1, false), (5, false), (6, false)] (.seq (.reg none [mv 16 6,
 bn 17 .lss 16 0] [1, 5, 6, 17])
 (.cond (.t 17) (.reg none [mv 18 6,
 i1 19 (.un .neg (.t 18)),
 mkk 5 (.str [45]),
 mv 6 19] [1, 5, 6])
 .skip))
 (.seq (.seq (.reg none [fa 20 0 1,
 ld 21 1 20,
 bn 22 .eql 21 2] [5, 6, 22])
 (.cond (.t 22) (.seq (.reg none [mv 23 5,
 mv 24 6,
 i1 25 (.cvtInt .u64 (.t 24)),
 c1 26 113 25,
 bt 27 .add 23 26,
 mv 2 27,
 mi 3 0] [2, 3])
 .ret)
 .skip))
 .dead)))))
def res_num_Print : List IRes := [⟨2, true, none⟩, ⟨3, true, none⟩]
theorem is_num_Print : fnIs Go.Proofs.Tryz.prog 76 49 res_num_Print ir_num_Print = true := by kernel_rfl
theorem num_Print_fn {v_0} {s : Store} {Q : List AV → Store → Prop}  : ok (num_Print v_0) (fun r => Q [.str r.1.b, .int .i64 r.2] s) → FN Go.Proofs.Tryz.prog 76 [.agg [.int .i64 v_0.Kind, .int .i64 v_0.N, .str v_0.S.b, .sl false 4 v_0.L.length (flat v_0.L)]] s Q := by
 intro h
 refine FN.of (draw_ok mix) is_num_Print rfl (Nat.le_of_ble_eq_true rfl) ?_
 revert h
 rw [ir_num_Print, res_num_Print, num_Print]
 repeat' (first
  | with_reducible exact tt_to
  | with_reducible refine and_to ?_ ?_
  | with_reducible refine im_to ?_
  | with_reducible refine call_to (fun _ (h : num_Check v_0 = some _) => num_Check_fe h) (fun r1 => ?_)
  | with_reducible refine call_to (fun _ (h : num_text (u64w (n4)) = some _) => num_text_fe h) (fun r5 => ?_)
  | ((with_reducible refine join_to (fun ((sign3, n4) : Str × Int) => ⟨[(1, .loc [.int .i64 v_0.Kind, .int .i64 v_0.N, .str v_0.S.b, .sl false 4 v_0.L.length (flat v_0.L)]), (5, .str sign3.b), (6, .int .i64 n4)], [], s⟩) (fun J => ?_) ?_); rotate_left; rintro ⟨sign3, n4⟩)
  | simp -implicitDefEqProofs only [go_sem, seval])
theorem num_Print_fe {v_0} {s : Store} {r : Str × Int}  (h : num_Print v_0 = some r) : FE Go.Proofs.Tryz.prog 76 [.agg [.int .i64 v_0.Kind, .int .i64 v_0.N, .str v_0.S.b, .sl false 4 v_0.L.length (flat v_0.L)]] s [.str r.1.b, .int .i64 r.2] s := num_Print_fn  ⟨r, h, rfl, rfl⟩
structure show_writer where
 Builder : Bld
def show_writer_value (w_0 : show_writer) (v_1 : api_Value) : Option (show_writer) :=
 if v_1.Kind == 0 then
  none
 else
  if v_1.Kind == 1 then
   none
  else
   jn (
    if v_1.Kind == 2 then
     some (v_1.Kind == 2)
    else
     some (v_1.Kind == 3)) fun (t2 : Bool) =>
   if t2 then
    bnd (num_Print v_1) fun r4 =>
    bnd (strings_Builder_WriteString w_0.Builder r4.1) fun r5 =>
    some (show_writer.mk r5.2.2)
   else
    none
def ir_show_writer_value : IC :=
 (.seq (.reg none [i1 3 (.boxL 4 (.t 1))] [0, 3])
 (.seq (.reg none [fa 8 0 3,
 ld 9 1 8] [0, 3, 9])
 (.block 0 (.seq (.reg none [bn 11 .eql 9 0,
 mv 10 11] [0, 3, 9, 10])
 (.cond (.t 10) .dead
 (.seq (.reg none [bn 17 .eql 9 1,
 mv 16 17] [0, 3, 9, 16])
 (.cond (.t 16) .dead
 (.join [(0, false), (3, false), (27, false)] (.seq (.reg none [bn 28 .eql 9 2,
 mv 27 28] [0, 3, 9, 27])
 (.cond (.t 27) .skip
 (.reg none [bn 29 .eql 9 3,
 mv 27 29] [0, 3, 27])))
 (.cond (.t 27) (.seq (.reg none [lm 31 4 3,
 c1 32 76 31,
 i1 30 (.movT (.t 32)),
 ex 33 30 0,
 ex 34 30 1,
 mv 4 33,
 mv 5 34] [0, 4])
 (.reg none [mv 35 0,
 nc 36 35,
 fa 37 0 36,
 mv 38 4,
 c2 39 75 37 38] []))
 .dead)))))))))
def res_show_writer_value : List IRes := []
theorem is_show_writer_value : fnIs Go.Proofs.Tryz.prog 44 95 res_show_writer_value ir_show_writer_value = true := by kernel_rfl
theorem show_writer_value_fn {w_0 v_1} {B0 : Nat} {s : Store} {Q : List AV → Store → Prop} (hB0 : s B0 = some (.cells [bldA 73 B0 0 w_0.Builder, bldB w_0.Builder])) : ok (show_writer_value w_0 v_1) (fun r => Q [] (s.set B0 (.cells [bldA 73 B0 0 r.Builder, bldB r.Builder]))) → FN Go.Proofs.Tryz.prog 44 [.ref B0 0, .agg [.int .i64 v_1.Kind, .int .i64 v_1.N, .str v_1.S.b, .sl false 4 v_1.L.length (flat v_1.L)]] s Q := by
 have hS : s = (s.set B0 (.cells [bldA 73 B0 0 w_0.Builder, bldB w_0.Builder])) := by simp only [set_eq' hB0]
 rw [hS]
 intro h
 refine FN.of (draw_ok mix) is_show_writer_value rfl (Nat.le_of_ble_eq_true rfl) ?_
 revert h
 rw [ir_show_writer_value, res_show_writer_value, show_writer_value]
 repeat' (first
  | with_reducible exact tt_to
  | with_reducible refine and_to ?_ ?_
  | with_reducible refine im_to ?_
  | with_reducible refine call_to (fun _ (h : num_Print v_1 = some _) => num_Print_fe h) (fun r4 => ?_)
  | with_reducible refine fun hh => FN_cast (by simp -implicitDefEqProofs only [go_sem, seval]) (strings_Builder_WriteString_fn (B0 := B0) (preB0 := []) (postB0 := []) (TB0 := 73) (by simp -implicitDefEqProofs only [go_sem, seval] <;> simp only [encM_nil]) (by first | rfl | simp) lies_73  (ok_mono (show ok (strings_Builder_WriteString w_0.Builder r4.1) _ from hh) fun r5 => ?_))
  | ((with_reducible refine join_to (fun (t2 : Bool) => ⟨[(0, .ref B0 0), (3, .loc [.int .i64 v_1.Kind, .int .i64 v_1.N, .str v_1.S.b, .sl false 4 v_1.L.length (flat v_1.L)]), (27, .bool t2)], [], (s.set B0 (.cells [bldA 73 B0 0 w_0.Builder, bldB w_0.Builder]))⟩) (fun J => ?_) ?_); rotate_left; rintro t2)
  | simp -implicitDefEqProofs only [go_sem, seval])
def show_Value (v_0 : api_Value) : Option (Str × Int) :=
 bnd (value_Check v_0) fun r1 =>
 if r1 != 0 then
  some ((Str.mk []), r1)
 else
  bnd (show_writer_value (show_writer.mk Bld.zero) v_0) fun r2 =>
  bnd (strings_Builder_String r2.Builder) fun r3 =>
  some (r3.1, 0)
def ir_show_Value : IC :=
 (.seq (.reg none [i1 1 (.boxL 4 (.t 0)),
 mkk 2 (.str []),
 mi 3 0] [1])
 (.seq (.seq (.reg none [lm 6 4 1,
 c1 7 18 6,
 mv 4 7] [1, 4])
 (.seq (.reg none [mv 8 4,
 bn 9 .neq 8 0] [1, 4, 9])
 (.cond (.t 9) (.seq (.reg none [mv 10 4,
 mkk 2 (.str []),
 mv 3 10] [2, 3])
 .ret)
 .skip)))
 (.seq (.reg none [i1 11 (.build [.nilp, .bb 5 0 []] []),
 i1 12 (.boxT 2 73 0 5 (.t 11)),
 mv 5 12] [1, 5])
 (.seq (.reg none [mv 13 5,
 lm 14 4 1,
 c2 15 44 13 14] [5])
 (.seq (.reg none [mv 16 5,
 nc 17 16,
 fa 18 0 17,
 c1 19 45 18,
 mv 2 19,
 mi 3 0] [2, 3])
 .ret)))))
def res_show_Value : List IRes := [⟨2, true, none⟩, ⟨3, true, none⟩]
theorem is_show_Value : fnIs Go.Proofs.Tryz.prog 24 20 res_show_Value ir_show_Value = true := by kernel_rfl
theorem show_Value_fn {v_0} {s : Store} {Q : List AV → Store → Prop}  : ok (show_Value v_0) (fun r => Q [.str r.1.b, .int .i64 r.2] s) → FN Go.Proofs.Tryz.prog 24 [.agg [.int .i64 v_0.Kind, .int .i64 v_0.N, .str v_0.S.b, .sl false 4 v_0.L.length (flat v_0.L)]] s Q := by
 intro h
 refine FN.forget ?_
 refine FN.of (draw_ok mix) is_show_Value rfl (Nat.le_of_ble_eq_true rfl) ?_
 revert h
 rw [ir_show_Value, res_show_Value, show_Value]
 repeat' (first
  | with_reducible refine and_to ?_ ?_
  | with_reducible refine im_to ?_
  | with_reducible refine call_to (fun _ (h : value_Check v_0 = some _) => value_Check_fe h) (fun r1 => ?_)
  | with_reducible refine fun hh => show_writer_value_fn (B0 := N1) (by simp -implicitDefEqProofs only [go_sem, seval] <;> simp only [encM_nil])   (ok_mono (show ok (show_writer_value (show_writer.mk Bld.zero) v_0) _ from hh) fun r2 => ?_)
  | with_reducible refine fun hh => FN_cast (by simp -implicitDefEqProofs only [go_sem, seval]) (strings_Builder_String_fn (B0 := N1) (preB0 := []) (postB0 := []) (TB0 := 73) (by simp -implicitDefEqProofs only [go_sem, seval] <;> simp only [encM_nil]) (by first | rfl | simp) lies_73  (ok_mono (show ok (strings_Builder_String r2.Builder) _ from hh) fun r3 => ?_))
  | ((fail_if_success (have _x := sN1)); with_reducible intro hh N1 hN1; (try simp only [set_none] at hN1); have sN1 := hN1; revert hh)
  | with_reducible exact fun hh => ⟨_, SubS.set (SubS.refl _) (by simp [Store.set, sN1]), hh⟩
  | with_reducible exact fun hh => ⟨_, SubS.refl _, hh⟩
  | simp -implicitDefEqProofs only [go_sem, seval])
theorem show_Value_fe {v_0} {s : Store} {r : Str × Int}  (h : show_Value v_0 = some r) : FE Go.Proofs.Tryz.prog 24 [.agg [.int .i64 v_0.Kind, .int .i64 v_0.N, .str v_0.S.b, .sl false 4 v_0.L.length (flat v_0.L)]] s [.str r.1.b, .int .i64 r.2] s := show_Value_fn  ⟨r, h, rfl, rfl⟩
def frame_body (v_0 : api_Value) : Option ((List UInt8)) :=
 bnd (show_Value v_0) fun r1 =>
 need (((r1.1.b.length + (Str.mk [10]).b.length : Nat) : Int) ≤ hi64) <|
 some ((Str.mk (r1.1.b ++ (Str.mk [10]).b)).b)
def ir_frame_body : IC :=
 (.seq (.reg none [i1 1 (.boxL 4 (.t 0)),
 i1 2 (.mov true (.c (.sl true 1 0 [])))] [1])
 (.seq (.reg none [lm 6 4 1,
 c1 7 24 6,
 i1 5 (.movT (.t 7)),
 ex 8 5 0,
 ex 9 5 1,
 mv 3 8,
 mv 4 9] [3])
 (.seq (.reg none [mv 10 3,
 i1 11 (.bin .add (.t 10) (.c (.str [10]))),
 i1 12 (.cvtBytes (.t 11)),
 mt 2 12] [2])
 .ret)))
def res_frame_body : List IRes := [⟨2, true, none⟩]
theorem is_frame_body : fnIs Go.Proofs.Tryz.prog 26 13 res_frame_body ir_frame_body = true := by kernel_rfl
theorem frame_body_fn {v_0} {s : Store} {Q : List AV → Store → Prop}  : ok (frame_body v_0) (fun r => Q [.sl true 1 r.length (flat r)] s) → FN Go.Proofs.Tryz.prog 26 [.agg [.int .i64 v_0.Kind, .int .i64 v_0.N, .str v_0.S.b, .sl false 4 v_0.L.length (flat v_0.L)]] s Q := by
 intro h
 refine FN.of (draw_ok mix) is_frame_body rfl (Nat.le_of_ble_eq_true rfl) ?_
 revert h
 rw [ir_frame_body, res_frame_body, frame_body]
 repeat' (first
  | with_reducible refine call_to (fun _ (h : show_Value v_0 = some _) => show_Value_fe h) (fun r1 => ?_)
  | simp -implicitDefEqProofs only [go_sem, seval])
theorem frame_body_fe {v_0} {s : Store} {r : (List UInt8)}  (h : frame_body v_0 = some r) : FE Go.Proofs.Tryz.prog 26 [.agg [.int .i64 v_0.Kind, .int .i64 v_0.N, .str v_0.S.b, .sl false 4 v_0.L.length (flat v_0.L)]] s [.sl true 1 r.length (flat r)] s := frame_body_fn  ⟨r, h, rfl, rfl⟩
def frame_Print (n_0 : Int) (o_1 : api_Object) (packed_2 : Bool) : Option ((List UInt8) × Int) :=
 if (decide (n_0 < 1)) || (decide (n_0 > 4096)) then
  some (([] : List UInt8), 2)
 else
  bnd (frame_Check o_1) fun r1 =>
  if r1 != 0 then
   some (([] : List UInt8), r1)
  else
   bnd (value_IntOf n_0) fun r2 =>
   bnd (show_Value r2) fun r3 =>
   need (((r3.1.b.length + (Str.mk [32, 48, 32, 111, 98, 106, 10]).b.length : Nat) : Int) ≤ hi64) <|
   if !o_1.Stream then
    bnd (frame_body o_1.V) fun r4 =>
    bnd (slices_Concatbyte_byte [(Str.mk (r3.1.b ++ (Str.mk [32, 48, 32, 111, 98, 106, 10]).b)).b, r4, [101, 110, 100, 111, 98, 106, 10]]) fun r5 =>
    some (r5, 0)
   else
    none
def ir_frame_Print : IC :=
 (.seq (.reg none [i1 4 (.boxL 6 (.t 1)),
 i1 6 (.mov true (.c (.sl true 1 0 []))),
 mi 7 0] [0, 4])
 (.seq (.seq (.reg none [mv 15 0,
 bn 16 .lss 15 1,
 mv 17 16,
 mvg 18 0 17 false,
 i1g 19 17 false (.bin .gtr (.t 18) (.c (.int .i64 4096))),
 po 20 17 19] [0, 4, 20])
 (.cond (.t 20) (.seq (.reg none [i1 6 (.mov true (.c (.sl true 1 0 []))),
 mi 7 2] [6, 7])
 .ret)
 .skip))
 (.seq (.seq (.reg none [lm 21 6 4,
 c1 22 6 21,
 mv 8 22] [0, 4, 8])
 (.seq (.reg none [mv 23 8,
 bn 24 .neq 23 0] [0, 4, 8, 24])
 (.cond (.t 24) (.seq (.reg none [mv 25 8,
 i1 6 (.mov true (.c (.sl true 1 0 []))),
 mv 7 25] [6, 7])
 .ret)
 .skip)))
 (.seq (.reg none [mv 27 0,
 c1 28 15 27,
 c1 29 24 28,
 i1 26 (.movT (.t 29)),
 ex 30 26 0,
 ex 31 26 1,
 mv 9 30,
 mv 10 31] [4, 9])
 (.seq (.reg none [mv 32 9,
 i1 33 (.bin .add (.t 32) (.c (.str [32, 48, 32, 111, 98, 106, 10]))),
 i1 34 (.cvtBytes (.t 33)),
 i1 35 (.buildSl 1 7 [.int .u8 0, .int .u8 0, .int .u8 0, .int .u8 0, .int .u8 0, .int .u8 0, .int .u8 0] [(0, 1, (.c (.int .u8 101))), (1, 1, (.c (.int .u8 110))), (2, 1, (.c (.int .u8 100))), (3, 1, (.c (.int .u8 111))), (4, 1, (.c (.int .u8 98))), (5, 1, (.c (.int .u8 106))), (6, 1, (.c (.int .u8 10)))]),
 i1 36 (.cvtRow (.t 35)),
 mt 11 34,
 mt 12 36] [4, 11, 12])
 (.seq (.seq (.reg none [fa 37 4 4,
 ld 38 1 37,
 no 39 38] [4, 11, 12, 39])
 (.cond (.t 39) (.seq (.reg none [mt 40 11,
 fa 41 0 4,
 lm 42 4 41,
 c1 43 26 42,
 mt 44 12,
 i1 45 (.buildSl 1 3 [.sl true 1 0 [], .sl true 1 0 [], .sl true 1 0 []] [(0, 1, (.t 40)), (1, 1, (.t 43)), (2, 1, (.t 44))]),
 c1 46 25 45,
 mt 6 46,
 mi 7 0] [6, 7])
 .ret)
 .skip))
 .dead))))))
def res_frame_Print : List IRes := [⟨6, true, none⟩, ⟨7, true, none⟩]
theorem is_frame_Print : fnIs Go.Proofs.Tryz.prog 14 77 res_frame_Print ir_frame_Print = true := by kernel_rfl
theorem frame_Print_fn {n_0 o_1 packed_2} {s : Store} {Q : List AV → Store → Prop}  : ok (frame_Print n_0 o_1 packed_2) (fun r => Q [.sl true 1 r.1.length (flat r.1), .int .i64 r.2] s) → FN Go.Proofs.Tryz.prog 14 [.int .i64 n_0, .agg [.int .i64 o_1.V.Kind, .int .i64 o_1.V.N, .str o_1.V.S.b, .sl false 4 o_1.V.L.length (flat o_1.V.L), .bool o_1.Stream, .str o_1.Data.b], .bool packed_2] s Q := by
 intro h
 refine FN.of (draw_ok mix) is_frame_Print rfl (Nat.le_of_ble_eq_true rfl) ?_
 revert h
 rw [ir_frame_Print, res_frame_Print, frame_Print]
 repeat' (first
  | with_reducible exact tt_to
  | with_reducible refine and_to ?_ ?_
  | with_reducible refine im_to ?_
  | with_reducible refine call_to (fun _ (h : frame_Check o_1 = some _) => frame_Check_fe h) (fun r1 => ?_)
  | with_reducible refine call_to (fun _ (h : value_IntOf n_0 = some _) => value_IntOf_fe h) (fun r2 => ?_)
  | with_reducible refine call_to (fun _ (h : show_Value r2 = some _) => show_Value_fe h) (fun r3 => ?_)
  | with_reducible refine call_to (fun _ (h : frame_body o_1.V = some _) => frame_body_fe h) (fun r4 => ?_)
  | with_reducible refine call_to (fun _ (h : slices_Concatbyte_byte [(Str.mk (r3.1.b ++ (Str.mk [32, 48, 32, 111, 98, 106, 10]).b)).b, r4, [101, 110, 100, 111, 98, 106, 10]] = some _) => (by refine FE_cast ?_ (slices_Concatbyte_byte_fe h); simp -implicitDefEqProofs only [go_sem, seval])) (fun r5 => ?_)
  | simp -implicitDefEqProofs only [go_sem, seval])
theorem frame_Print_fe {n_0 o_1 packed_2} {s : Store} {r : (List UInt8) × Int}  (h : frame_Print n_0 o_1 packed_2 = some r) : FE Go.Proofs.Tryz.prog 14 [.int .i64 n_0, .agg [.int .i64 o_1.V.Kind, .int .i64 o_1.V.N, .str o_1.V.S.b, .sl false 4 o_1.V.L.length (flat o_1.V.L), .bool o_1.Stream, .str o_1.Data.b], .bool packed_2] s [.sl true 1 r.1.length (flat r.1), .int .i64 r.2] s := frame_Print_fn  ⟨r, h, rfl, rfl⟩
attribute [-go_sem] part_nat
end Go.AB
end

section
set_option maxRecDepth 4000
namespace Go.AB
open Go
attribute [-go_sem] xwp_cons xwpK_eq xalt_cons xalt_nil
@[go_sem] theorem gne_2 (g : Bool) : (g = true → (2 : Int) ≠ 0) = True := eq_true (fun _ => by decide)
def parse_whole (t_0 : lex_Token) : Option (Bool) :=
 some ((t_0.Kind == 1) && (t_0.V.Kind == 2))
def ir_parse_whole : IC :=
 (.seq (.reg none [i1 1 (.boxL 8 (.t 0)),
 mkk 2 (.bool false)] [1])
 (.seq (.reg none [fa 3 0 1,
 ld 4 1 3,
 bn 5 .eql 4 1,
 mv 6 5,
 fg 7 6 true 3 1,
 fg 8 6 true 0 7,
 lg 9 6 true 1 8,
 i1g 10 6 true (.bin .eql (.t 9) (.c (.int .i64 2))),
 pf 11 6 10,
 mv 2 11] [2])
 .ret))
def res_parse_whole : List IRes := [⟨2, true, none⟩]
theorem is_parse_whole : fnIs Go.Proofs.Tryz.prog 93 12 res_parse_whole ir_parse_whole = true := by kernel_rfl
theorem parse_whole_fn {t_0} {s : Store} {Q : List AV → Store → Prop}  : ok (parse_whole t_0) (fun r => Q [.bool r] s) → FN Go.Proofs.Tryz.prog 93 [.agg [.int .i64 t_0.Kind, .int .i64 t_0.From, .int .i64 t_0.To, .int .i64 t_0.V.Kind, .int .i64 t_0.V.N, .str t_0.V.S.b, .sl false 4 t_0.V.L.length (flat t_0.V.L), .str t_0.S.b]] s Q := by
 intro h
 refine FN.of (draw_ok mix) is_parse_whole rfl (Nat.le_of_ble_eq_true rfl) ?_
 revert h
 rw [ir_parse_whole, res_parse_whole, parse_whole]
 repeat' (first
  | simp -implicitDefEqProofs only [go_sem, seval])
theorem parse_whole_fe {t_0} {s : Store} {r : Bool}  (h : parse_whole t_0 = some r) : FE Go.Proofs.Tryz.prog 93 [.agg [.int .i64 t_0.Kind, .int .i64 t_0.From, .int .i64 t_0.To, .int .i64 t_0.V.Kind, .int .i64 t_0.V.N, .str t_0.V.S.b, .sl false 4 t_0.V.L.length (flat t_0.V.L), .str t_0.S.b]] s [.bool r] s := parse_whole_fn  ⟨r, h, rfl, rfl⟩
def parse_more (e_0 : Int) : Option (Int) :=
 if e_0 == 6 then
  some e_0
 else
  some 0
def ir_parse_more : IC :=
 (.seq (.reg none [mi 2 0] [0])
 (.seq (.seq (.reg none [mv 3 0,
 bn 4 .eql 3 6] [0, 4])
 (.cond (.t 4) (.seq (.reg none [mv 5 0,
 mv 2 5] [2])
 .ret)
 .skip))
 (.seq (.reg none [mi 2 0] [2])
 .ret)))
def res_parse_more : List IRes := [⟨2, true, none⟩]
theorem is_parse_more : fnIs Go.Proofs.Tryz.prog 214 6 res_parse_more ir_parse_more = true := by kernel_rfl
theorem parse_more_fn {e_0} {s : Store} {Q : List AV → Store → Prop}  : ok (parse_more e_0) (fun r => Q [.int .i64 r] s) → FN Go.Proofs.Tryz.prog 214 [.int .i64 e_0] s Q := by
 intro h
 refine FN.of (draw_ok mix) is_parse_more rfl (Nat.le_of_ble_eq_true rfl) ?_
 revert h
 rw [ir_parse_more, res_parse_more, parse_more]
 repeat' (first
  | simp -implicitDefEqProofs only [go_sem, seval])
theorem parse_more_fe {e_0} {s : Store} {r : Int}  (h : parse_more e_0 = some r) : FE Go.Proofs.Tryz.prog 214 [.int .i64 e_0] s [.int .i64 r] s := parse_more_fn  ⟨r, h, rfl, rfl⟩
def parse_word (w_0 : Str) : Option (api_Value × Int) :=
 if w_0.b == (Str.mk [116, 114, 117, 101]).b then
  some ((api_Value.mk 1 1 (Str.mk []) ([] : List api_Value)), 0)
 else
  if w_0.b == (Str.mk [102, 97, 108, 115, 101]).b then
   some ((api_Value.mk 1 0 (Str.mk []) ([] : List api_Value)), 0)
  else
   if w_0.b == (Str.mk [110, 117, 108, 108]).b then
    some ((api_Value.mk 0 0 (Str.mk []) ([] : List api_Value)), 0)
   else
    some ((api_Value.mk 0 0 (Str.mk []) ([] : List api_Value)), 11)
def ir_parse_word : IC :=
 (.seq (.reg none [i1 2 (.allocL [.int .i64 0, .int .i64 0, .str [], .sl true 4 0 []]),
 mi 3 0] [0, 2])
 (.seq (.seq (.reg none [mv 4 0] [2, 4])
 (.block 0 (.seq (.reg none [i1 6 (.bin .eql (.t 4) (.c (.str [116, 114, 117, 101]))),
 mv 5 6] [2, 4, 5])
 (.cond (.t 5) (.seq (.reg none [i1 7 (.build [.int .i64 0, .int .i64 0, .str [], .sl true 4 0 []] [(0, 1, (.c (.int .i64 1))), (1, 1, (.c (.int .i64 1)))]),
 st 4 2 7,
 mi 3 0] [2, 3])
 .ret)
 (.seq (.reg none [i1 9 (.bin .eql (.t 4) (.c (.str [102, 97, 108, 115, 101]))),
 mv 8 9] [2, 4, 8])
 (.cond (.t 8) (.seq (.reg none [i1 10 (.build [.int .i64 0, .int .i64 0, .str [], .sl true 4 0 []] [(0, 1, (.c (.int .i64 1)))]),
 st 4 2 10,
 mi 3 0] [2, 3])
 .ret)
 (.seq (.reg none [i1 12 (.bin .eql (.t 4) (.c (.str [110, 117, 108, 108]))),
 mv 11 12] [2, 11])
 (.cond (.t 11) (.seq (.reg none [i1 13 (.build [.int .i64 0, .int .i64 0, .str [], .sl true 4 0 []] []),
 st 4 2 13,
 mi 3 0] [2, 3])
 .ret)
 .skip))))))))
 (.seq (.reg none [i1 14 (.build [.int .i64 0, .int .i64 0, .str [], .sl true 4 0 []] []),
 st 4 2 14,
 mi 3 11] [2, 3])
 .ret)))
def res_parse_word : List IRes := [⟨2, false, some (4, true)⟩, ⟨3, true, none⟩]
theorem is_parse_word : fnIs Go.Proofs.Tryz.prog 168 15 res_parse_word ir_parse_word = true := by kernel_rfl
theorem parse_word_fn {w_0} {s : Store} {Q : List AV → Store → Prop}  : ok (parse_word w_0) (fun r => Q [.agg [.int .i64 r.1.Kind, .int .i64 r.1.N, .str r.1.S.b, .sl false 4 r.1.L.length (flat r.1.L)], .int .i64 r.2] s) → FN Go.Proofs.Tryz.prog 168 [.str w_0.b] s Q := by
 intro h
 refine FN.of (draw_ok mix) is_parse_word rfl (Nat.le_of_ble_eq_true rfl) ?_
 revert h
 rw [ir_parse_word, res_parse_word, parse_word]
 repeat' (first
  | simp -implicitDefEqProofs only [go_sem, seval])
theorem parse_word_fe {w_0} {s : Store} {r : api_Value × Int}  (h : parse_word w_0 = some r) : FE Go.Proofs.Tryz.prog 168 [.str w_0.b] s [.agg [.int .i64 r.1.Kind, .int .i64 r.1.N, .str r.1.S.b, .sl false 4 r.1.L.length (flat r.1.L)], .int .i64 r.2] s := parse_word_fn  ⟨r, h, rfl, rfl⟩
structure parse_stack where
 b_ : (List UInt8)
 at_ : Int
 last_ : Bool
 open_ : AV
def parse_stack_next (s_0 : parse_stack) : Option (lex_Token × Int × parse_stack) :=
 bnd (lex_Next s_0.b_ s_0.at_ s_0.last_) fun r1 =>
 jn (
  if r1.2 == 0 then
   some (parse_stack.mk s_0.b_ r1.1.To s_0.last_ s_0.open_)
  else
   some s_0) fun (o5 : parse_stack) =>
 some (r1.1, r1.2, o5)
def ir_parse_stack_next : IC :=
 (.seq (.reg none [i1 2 (.allocL [.int .i64 0, .int .i64 0, .int .i64 0, .int .i64 0, .int .i64 0, .str [], .sl true 4 0 [], .str []]),
 mi 3 0] [0, 2])
 (.seq (.regT [4] 19 [mv 7 0,
 nc 8 7,
 fa 9 0 8,
 i1 10 (.loadR [.sl false 1 0 []] false (.t 9)),
 mv 11 0,
 nc 12 11,
 fa 13 1 12,
 i1 14 (.loadR [.int .i64 0] false (.t 13)),
 mv 15 0,
 nc 16 15,
 fa 17 2 16,
 i1 18 (.loadR [.bool false] false (.t 17)),
 c3 19 58 10 14 18,
 i1 6 (.movT (.t 19)),
 ex 20 6 0,
 ex 21 6 1,
 i1 4 (.allocL [.int .i64 0, .int .i64 0, .int .i64 0, .int .i64 0, .int .i64 0, .str [], .sl true 4 0 [], .str []]),
 st 8 4 20,
 mv 5 21] [0, 2, 4, 5])
 (.join [(2, false), (4, false), (5, false)] (.seq (.reg none [mv 22 5,
 bn 23 .eql 22 0] [0, 2, 4, 5, 23])
 (.cond (.t 23) (.reg none [mv 24 0,
 fa 25 2 4,
 ld 26 1 25,
 nc 27 24,
 fa 28 1 27,
 st 1 28 26] [2, 4, 5])
 .skip))
 (.seq (.reg none [lm 29 8 4,
 mv 30 5,
 st 8 2 29,
 mv 3 30] [2, 3])
 .ret))))
def res_parse_stack_next : List IRes := [⟨2, false, some (8, true)⟩, ⟨3, true, none⟩]
theorem is_parse_stack_next : fnIs Go.Proofs.Tryz.prog 95 31 res_parse_stack_next ir_parse_stack_next = true := by kernel_rfl
theorem parse_stack_next_fn {s_0} {B0 : Nat} {s : Store} {Q : List AV → Store → Prop} (hB0 : s B0 = some (.cells [.sl false 1 s_0.b_.length (flat s_0.b_), .int .i64 s_0.at_, .bool s_0.last_, s_0.open_])) : ok (parse_stack_next s_0) (fun r => Q [.agg [.int .i64 r.1.Kind, .int .i64 r.1.From, .int .i64 r.1.To, .int .i64 r.1.V.Kind, .int .i64 r.1.V.N, .str r.1.V.S.b, .sl false 4 r.1.V.L.length (flat r.1.V.L), .str r.1.S.b], .int .i64 r.2.1] (s.set B0 (.cells [.sl false 1 r.2.2.b_.length (flat r.2.2.b_), .int .i64 r.2.2.at_, .bool r.2.2.last_, r.2.2.open_]))) → FN Go.Proofs.Tryz.prog 95 [.ref B0 0] s Q := by
 have hS : s = (s.set B0 (.cells [.sl false 1 s_0.b_.length (flat s_0.b_), .int .i64 s_0.at_, .bool s_0.last_, s_0.open_])) := by simp only [set_eq' hB0]
 rw [hS]
 intro h
 refine FN.of (draw_ok mix) is_parse_stack_next rfl (Nat.le_of_ble_eq_true rfl) ?_
 revert h
 rw [ir_parse_stack_next, res_parse_stack_next, parse_stack_next]
 repeat' (first
  | ((with_reducible refine b_to ?_ ?_); exact rfl)
  | with_reducible refine call_to_q (fun _ (h : lex_Next s_0.b_ s_0.at_ s_0.last_ = some _) => lex_Next_fe h) (fun _ => rfl) (fun r1 => ?_)
  | ((with_reducible refine join_to (fun (o5 : parse_stack) => ⟨[(2, .loc [.int .i64 0, .int .i64 0, .int .i64 0, .int .i64 0, .int .i64 0, .str (Str.mk []).b, .sl true 4 0 [], .str (Str.mk []).b]), (4, .loc [.int .i64 r1.1.Kind, .int .i64 r1.1.From, .int .i64 r1.1.To, .int .i64 r1.1.V.Kind, .int .i64 r1.1.V.N, .str r1.1.V.S.b, .sl false 4 r1.1.V.L.length (flat r1.1.V.L), .str r1.1.S.b]), (5, .int .i64 r1.2)], [], (s.set B0 (.cells [.sl false 1 o5.b_.length (flat o5.b_), .int .i64 o5.at_, .bool o5.last_, o5.open_]))⟩) (fun J => ?_) ?_); rotate_left; rintro o5)
  | simp -implicitDefEqProofs only [go_sem, seval])
def parse_stack_ref (s_0 : parse_stack) (v_1 : api_Value) : Option (api_Value × Int × parse_stack) :=
 bnd (lex_Next s_0.b_ s_0.at_ s_0.last_) fun r1 =>
 bnd (whenB (!(r1.2 != 0)) false (parse_whole r1.1)) fun r2 =>
 if (r1.2 != 0) || (!r2) then
  bnd (parse_more r1.2) fun r3 =>
  some (v_1, r3, s_0)
 else
  bnd (lex_Next s_0.b_ r1.1.To s_0.last_) fun r4 =>
  if ((r4.2 != 0) || (r4.1.Kind != 6)) || (!(r4.1.S.b == (Str.mk [82]).b)) then
   bnd (parse_more r4.2) fun r5 =>
   some (v_1, r5, s_0)
  else
   if ((decide (v_1.N < 1)) || (decide (v_1.N > 4096))) || (r1.1.V.N != 0) then
    some (v_1, 26, s_0)
   else
    some ((api_Value.mk 8 v_1.N (Str.mk []) ([] : List api_Value)), 0, (parse_stack.mk s_0.b_ r4.1.To s_0.last_ s_0.open_))
def ir_parse_stack_ref : IC :=
 (.seq (.reg none [i1 3 (.boxL 4 (.t 1)),
 i1 4 (.allocL [.int .i64 0, .int .i64 0, .str [], .sl true 4 0 []]),
 mi 5 0] [0, 3, 4])
 (.seq (.regT [6] 19 [mv 10 0,
 nc 11 10,
 fa 12 0 11,
 i1 13 (.loadR [.sl false 1 0 []] false (.t 12)),
 mv 14 0,
 nc 15 14,
 fa 16 1 15,
 i1 17 (.loadR [.int .i64 0] false (.t 16)),
 mv 18 0,
 nc 19 18,
 fa 20 2 19,
 i1 21 (.loadR [.bool false] false (.t 20)),
 c3 22 58 13 17 21,
 i1 9 (.movT (.t 22)),
 ex 23 9 0,
 ex 24 9 1,
 i1 6 (.allocL [.int .i64 0, .int .i64 0, .int .i64 0, .int .i64 0, .int .i64 0, .str [], .sl true 4 0 [], .str []]),
 st 8 6 23,
 mv 7 24] [0, 3, 4, 6, 7])
 (.seq (.seq (.reg (some 5) [mv 25 7,
 bn 26 .neq 25 0,
 mv 27 26,
 i1g 28 27 false (.load 8 true (.t 6)),
 i1g 29 27 false (.call 93 [(.t 28)]),
 i1g 30 27 false (.un .not (.t 29)),
 po 31 27 30] [0, 3, 4, 6, 7, 31])
 (.cond (.t 31) (.seq (.reg (some 3) [lm 32 4 3,
 mv 33 7,
 c1 34 214 33,
 st 4 4 32,
 mv 5 34] [4, 5])
 .ret)
 .skip))
 (.seq (.regT [8] 17 [mv 36 0,
 nc 37 36,
 fa 38 0 37,
 i1 39 (.loadR [.sl false 1 0 []] false (.t 38)),
 fa 40 2 6,
 ld 41 1 40,
 mv 42 0,
 nc 43 42,
 fa 44 2 43,
 i1 45 (.loadR [.bool false] false (.t 44)),
 c3 46 58 39 41 45,
 i1 35 (.movT (.t 46)),
 ex 47 35 0,
 ex 48 35 1,
 i1 8 (.allocL [.int .i64 0, .int .i64 0, .int .i64 0, .int .i64 0, .int .i64 0, .str [], .sl true 4 0 [], .str []]),
 st 8 8 47,
 mv 7 48] [0, 3, 4, 6, 7, 8])
 (.seq (.seq (.reg none [mv 49 7,
 bn 50 .neq 49 0,
 mv 51 50,
 fg 52 51 false 0 8,
 lg 53 51 false 1 52,
 i1g 54 51 false (.bin .neq (.t 53) (.c (.int .i64 6))),
 po 55 51 54,
 mv 56 55,
 fg 57 56 false 7 8,
 lg 58 56 false 1 57,
 i1g 59 56 false (.bin .neq (.t 58) (.c (.str [82]))),
 po 60 56 59] [0, 3, 4, 6, 7, 8, 60])
 (.cond (.t 60) (.seq (.reg (some 3) [lm 61 4 3,
 mv 62 7,
 c1 63 214 62,
 st 4 4 61,
 mv 5 63] [4, 5])
 .ret)
 .skip))
 (.seq (.seq (.reg none [fa 64 1 3,
 ld 65 1 64,
 bn 66 .lss 65 1,
 mv 67 66,
 fg 68 67 false 1 3,
 lg 69 67 false 1 68,
 i1g 70 67 false (.bin .gtr (.t 69) (.c (.int .i64 4096))),
 po 71 67 70,
 mv 72 71,
 fg 73 72 false 3 6,
 fg 74 72 false 1 73,
 lg 75 72 false 1 74,
 i1g 76 72 false (.bin .neq (.t 75) (.c (.int .i64 0))),
 po 77 72 76] [0, 3, 4, 8, 77])
 (.cond (.t 77) (.seq (.reg none [lm 78 4 3,
 st 4 4 78,
 mi 5 26] [4, 5])
 .ret)
 .skip))
 (.seq (.reg none [mv 79 0,
 fa 80 2 8,
 ld 81 1 80,
 nc 82 79,
 fa 83 1 82,
 st 1 83 81] [3, 4])
 (.seq (.reg none [fa 84 1 3,
 ld 85 1 84,
 i1 86 (.build [.int .i64 0, .int .i64 0, .str [], .sl true 4 0 []] [(0, 1, (.c (.int .i64 8))), (1, 1, (.t 85))]),
 st 4 4 86,
 mi 5 0] [4, 5])
 .ret))))))))
def res_parse_stack_ref : List IRes := [⟨4, false, some (4, true)⟩, ⟨5, true, none⟩]
theorem is_parse_stack_ref : fnIs Go.Proofs.Tryz.prog 169 87 res_parse_stack_ref ir_parse_stack_ref = true := by kernel_rfl
theorem parse_stack_ref_fn {s_0 v_1} {B0 : Nat} {s : Store} {Q : List AV → Store → Prop} (hB0 : s B0 = some (.cells [.sl false 1 s_0.b_.length (flat s_0.b_), .int .i64 s_0.at_, .bool s_0.last_, s_0.open_])) : ok (parse_stack_ref s_0 v_1) (fun r => Q [.agg [.int .i64 r.1.Kind, .int .i64 r.1.N, .str r.1.S.b, .sl false 4 r.1.L.length (flat r.1.L)], .int .i64 r.2.1] (s.set B0 (.cells [.sl false 1 r.2.2.b_.length (flat r.2.2.b_), .int .i64 r.2.2.at_, .bool r.2.2.last_, r.2.2.open_]))) → FN Go.Proofs.Tryz.prog 169 [.ref B0 0, .agg [.int .i64 v_1.Kind, .int .i64 v_1.N, .str v_1.S.b, .sl false 4 v_1.L.length (flat v_1.L)]] s Q := by
 have hS : s = (s.set B0 (.cells [.sl false 1 s_0.b_.length (flat s_0.b_), .int .i64 s_0.at_, .bool s_0.last_, s_0.open_])) := by simp only [set_eq' hB0]
 rw [hS]
 intro h
 refine FN.of (draw_ok mix) is_parse_stack_ref rfl (Nat.le_of_ble_eq_true rfl) ?_
 revert h
 rw [ir_parse_stack_ref, res_parse_stack_ref, parse_stack_ref]
 repeat' (first
  | with_reducible exact tt_to
  | ((with_reducible refine b_to ?_ ?_); exact rfl)
  | with_reducible refine and_to ?_ ?_
  | with_reducible refine im_to ?_
  | with_reducible refine call_to_q (fun _ (h : lex_Next s_0.b_ s_0.at_ s_0.last_ = some _) => lex_Next_fe h) (fun _ => rfl) (fun r1 => ?_)
  | with_reducible refine call_to_g rfl (fun _ (h : parse_whole r1.1 = some _) => parse_whole_fe h) (fun _ => rfl) (fun r2 => ?_)
  | with_reducible refine call_to_q (fun _ (h : parse_more r1.2 = some _) => parse_more_fe h) (fun _ => rfl) (fun r3 => ?_)
  | with_reducible refine call_to_q (fun _ (h : lex_Next s_0.b_ r1.1.To s_0.last_ = some _) => lex_Next_fe h) (fun _ => rfl) (fun r4 => ?_)
  | with_reducible refine call_to_q (fun _ (h : parse_more r4.2 = some _) => parse_more_fe h) (fun _ => rfl) (fun r5 => ?_)
  | simp -implicitDefEqProofs only [go_sem, seval])
structure parse_level where
 dict_ : Bool
 l_ : (List api_Value)
end Go.AB
end

section
namespace Go.AB
open Go
def Holds (s0 s : Store) (H : List (Nat × SO)) : Prop := Sub s0 s ∧ (∀ p ∈ H, s p.1 = some p.2 ∧ s0 p.1 = none) ∧ (H.map Prod.fst).Nodup
theorem Holds.perm {s0 s : Store} {H H' : List (Nat × SO)} (h : Holds s0 s H) (p : H.Perm H') : Holds s0 s H' :=
 ⟨h.1, fun x hx => h.2.1 x (p.mem_iff.2 hx), (p.map Prod.fst).nodup_iff.1 h.2.2⟩
theorem Holds.nil {s : Store} : Holds s s [] := ⟨Sub.refl s, fun p hp => by simp at hp, by simp⟩
theorem Holds.get {s0 s : Store} {k : Nat} {o : SO} {H : List (Nat × SO)} (h : Holds s0 s ((k, o) :: H)) : s k = some o := (h.2.1 _ List.mem_cons_self).1
theorem Holds.mem {s0 s : Store} {k : Nat} {o : SO} {H : List (Nat × SO)} (h : Holds s0 s H) (hm : (k, o) ∈ H) : s k = some o := (h.2.1 _ hm).1
theorem Holds.tail {s0 s : Store} {p : Nat × SO} {H : List (Nat × SO)} (h : Holds s0 s (p :: H)) : Holds s0 s H :=
 ⟨h.1, fun x hx => h.2.1 x (List.mem_cons_of_mem _ hx), (List.nodup_cons.1 h.2.2).2⟩
theorem Holds.set {s0 s : Store} {k : Nat} {o o' : SO} {H : List (Nat × SO)} (h : Holds s0 s ((k, o) :: H)) : Holds s0 (s.set k o') ((k, o') :: H) := by
  obtain ⟨h1, h2, h3⟩ := h
  have h0 := (h2 _ List.mem_cons_self).2
  refine ⟨fun b x hb => ?_, fun p hp => ?_, h3⟩
  · rw [set_ne (fun e => by subst e; rw [h0] at hb; cases hb)]; exact h1 b x hb
  · rcases List.mem_cons.1 hp with rfl | hp
    · exact ⟨set_same .., h0⟩
    · obtain ⟨q1, q2⟩ := h2 p (List.mem_cons_of_mem _ hp)
      refine ⟨?_, q2⟩
      rw [set_ne (fun e => ?_)]; exact q1
      have := (List.nodup_cons.1 h3).1
      exact this (by show k ∈ H.map Prod.fst; rw [← e]; exact List.mem_map_of_mem hp)
theorem Holds.notin {s0 s : Store} {H : List (Nat × SO)} (h : Holds s0 s H) {k : Nat} (hk : s k = none) : k ∉ H.map Prod.fst := by
 intro hm
 obtain ⟨p, hp, rfl⟩ := List.mem_map.1 hm
 rw [(h.2.1 p hp).1] at hk; cases hk
theorem Holds.alloc {s0 s : Store} {k : Nat} {o : SO} {H : List (Nat × SO)} (h : Holds s0 s H) (hk : s k = none) : Holds s0 (s.set k o) ((k, o) :: H) := by
  have hn := h.notin hk
  obtain ⟨h1, h2, h3⟩ := h
  have h0 : s0 k = none := by
    cases e : s0 k with
    | none => rfl
    | some x => rw [h1 k x e] at hk; cases hk
  refine ⟨h1.set hk, fun p hp => ?_, by rw [List.map_cons]; exact List.nodup_cons.2 ⟨hn, h3⟩⟩
  rcases List.mem_cons.1 hp with rfl | hp
  · exact ⟨set_same .., h0⟩
  · obtain ⟨q1, q2⟩ := h2 p hp
    exact ⟨by rw [set_ne (fun e => by rw [e, hk] at q1; cases q1)]; exact q1, q2⟩
theorem Holds.sub {s0 s s' : Store} {H : List (Nat × SO)} (h : Holds s0 s H) (hs : Sub s s') : Holds s0 s' H :=
 ⟨fun b o hb => hs b o (h.1 b o hb), fun p hp => ⟨hs _ _ (h.2.1 p hp).1, (h.2.1 p hp).2⟩, h.2.2⟩
theorem del_ne {s : Store} {k j : Nat} (h : j ≠ k) : (s.del k) j = s j := by unfold Store.del; rw [if_neg h]
theorem del_set_self {s : Store} {k : Nat} {o : SO} (h : s k = some o) : (s.del k).set k o = s := by
  funext i
  unfold Store.set Store.del
  by_cases e : i = k
  · subst e; simp [h]
  · simp [e]
theorem Holds.del {s0 s : Store} {k : Nat} {o : SO} {H : List (Nat × SO)} (h : Holds s0 s ((k, o) :: H)) : Holds s0 (s.del k) H ∧ (s.del k) k = none := by
  obtain ⟨h1, h2, h3⟩ := h
  have h0 := (h2 _ List.mem_cons_self).2
  refine ⟨⟨fun b x hb => ?_, fun p hp => ?_, (List.nodup_cons.1 h3).2⟩, by unfold Store.del; simp⟩
  · rw [del_ne (fun e => by subst e; rw [h0] at hb; cases hb)]; exact h1 b x hb
  · obtain ⟨q1, q2⟩ := h2 p (List.mem_cons_of_mem _ hp)
    refine ⟨?_, q2⟩
    rw [del_ne (fun e => ?_)]; exact q1
    have := (List.nodup_cons.1 h3).1
    exact this (by show k ∈ H.map Prod.fst; rw [← e]; exact List.mem_map_of_mem hp)
section
variable {α : Type} [Enc α]
def rowH (r : RowP) (l : List α) : List (Nat × SO) := match r with
 | none => []
 | some (b, _, sp) => [(b, .cells (flat l ++ sp))]
def rowF (r : RowP) (l : List α) : Prop := match r with
 | none => l = []
 | some (_, cap, sp) => 0 < cap ∧ l.length ≤ cap ∧ (flat l ++ sp).length = cap * Enc.w α ∧ views sp = sp
theorem Holds.row {s0 s : Store} {r : RowP} {l : List α} {H : List (Nat × SO)} (h : Holds s0 s (rowH r l ++ H)) (hf : rowF r l) : ∃ s1, s = rowS s1 r l ∧ RowOK s1 r l ∧ Holds s0 s1 H := by
 cases r with
 | none => exact ⟨s, rfl, hf, h⟩
 | some x =>
  obtain ⟨b, cap, sp⟩ := x
  have h' : Holds s0 s ((b, .cells (flat l ++ sp)) :: H) := h
  obtain ⟨h1, h2⟩ := h'.del
  exact ⟨s.del b, (del_set_self h'.get).symm, ⟨h2, hf⟩, h1⟩
theorem Holds.unrow {s0 s1 : Store} {r : RowP} {l : List α} {H : List (Nat × SO)} (h : Holds s0 s1 H) (ho : RowOK s1 r l) : Holds s0 (rowS s1 r l) (rowH r l ++ H) ∧ rowF r l := by
 cases r with
 | none => exact ⟨h, ho⟩
 | some x =>
  obtain ⟨b, cap, sp⟩ := x
  exact ⟨h.alloc ho.1, ho.2⟩
end
end Go.AB
end

section
set_option maxRecDepth 4000
namespace Go.AB
open Go
attribute [-go_sem] Nat.add_zero ge_0 part_zero
def ir_parse_level_wantsA : IC :=
 (.seq (.reg none [mkk 2 (.bool false)] [0])
 (.seq (.reg none [mv 3 0,
 nc 4 3,
 fa 5 0 4,
 i1 6 (.loadR [.bool false] false (.t 5)),
 mv 7 6,
 mvg 8 0 7 true,
 i1g 9 7 true (.nilCheck (.t 8)),
 fg 10 7 true 1 9,
 i1g 11 7 true (.loadR [.sl false 4 0 []] false (.t 10)),
 i1g 12 7 true (.len 0 (.t 11)),
 i1g 13 7 true (.bin .rem (.t 12) (.c (.int .i64 2))),
 i1g 14 7 true (.bin .eql (.t 13) (.c (.int .i64 0))),
 pf 15 7 14,
 mv 2 15] [2])
 .ret))
def res_parse_level_wantsA : List IRes := [⟨2, true, none⟩]
theorem is_parse_level_wantsA : fnIs Go.Proofs.Tryz.prog 166 16 res_parse_level_wantsA ir_parse_level_wantsA = true := by kernel_rfl
def ir_parse_stack_top : IC :=
 (.seq (.reg none [mkk 2 (.nilp)] [0])
 (.seq (.seq (.reg none [mv 3 0,
 nc 4 3,
 fa 5 3 4,
 i1 6 (.loadR [.sl false 1 0 []] false (.t 5)),
 le 7 0 6,
 bn 8 .eql 7 0] [0, 8])
 (.cond (.t 8) (.seq (.reg none [mkk 2 (.nilp)] [2])
 .ret)
 .skip))
 (.seq (.reg (some 13) [mv 9 0,
 nc 10 9,
 fa 11 3 10,
 i1 12 (.loadR [.sl false 1 0 []] false (.t 11)),
 mv 13 0,
 nc 14 13,
 fa 15 3 14,
 i1 16 (.loadR [.sl false 1 0 []] false (.t 15)),
 le 17 0 16,
 bn 18 .sub 17 1,
 ia 19 [.nilp] 12 18,
 i1 20 (.loadR [.nilp] false (.t 19)),
 mv 2 20] [2])
 .ret)))
def res_parse_stack_top : List IRes := [⟨2, true, none⟩]
theorem is_parse_stack_top : fnIs Go.Proofs.Tryz.prog 97 21 res_parse_stack_top ir_parse_stack_top = true := by kernel_rfl
def ir_parse_stack_begin : IC :=
 (.seq (.reg none [mi 4 0] [0, 1])
 (.seq (.seq (.reg none [mv 6 0,
 c1 7 97 6,
 mv 5 7] [0, 1, 5])
 (.seq (.reg (some 5) [mv 8 5,
 i1 9 (.eqP true (.t 8) (.c (.nilp))),
 mv 10 9,
 mvg 11 5 10 true,
 i1g 12 10 true (.call 166 [(.t 11)]),
 pf 13 10 12] [0, 1, 13])
 (.cond (.t 13) (.seq (.reg none [mi 4 11] [4])
 .ret)
 .skip)))
 (.seq (.seq (.reg none [mv 14 0,
 nc 15 14,
 fa 16 3 15,
 ld 17 1 16,
 le 18 0 17,
 bn 19 .geq 18 64] [0, 1, 19])
 (.cond (.t 19) (.seq (.reg none [mi 4 15] [4])
 .ret)
 .skip))
 (.seq (.reg none [mv 20 0,
 mv 21 0,
 nc 22 21,
 fa 23 3 22,
 ld 24 1 23,
 mv 25 1,
 i1 26 (.build [.bool false, .arr 0 0 0 0] [(0, 1, (.t 25))]),
 i1 27 (.boxS 2 (.t 26)),
 i1 28 (.buildSl 1 1 [.nilp] [(0, 1, (.t 27))]),
 i1 29 (.appendA 1 8 [.nilp] (.t 24) (.t 28)),
 nc 30 20,
 fa 31 3 30,
 st 1 31 29] [])
 (.seq (.reg none [mi 4 0] [4])
 .ret)))))
def res_parse_stack_begin : List IRes := [⟨4, true, none⟩]
theorem is_parse_stack_begin : fnIs Go.Proofs.Tryz.prog 126 32 res_parse_stack_begin ir_parse_stack_begin = true := by kernel_rfl
def ir_parse_stack_end : IC :=
 (.seq (.reg none [i1 4 (.allocL [.int .i64 0, .int .i64 0, .str [], .sl true 4 0 []]),
 mi 5 0] [0, 1, 4])
 (.seq (.reg none [mv 9 0,
 c1 10 97 9,
 mv 6 10] [0, 1, 4, 6])
 (.seq (.block 0 (.seq (.reg none [mv 12 6,
 i1 13 (.eqP false (.t 12) (.c (.nilp))),
 mv 14 13,
 mvg 15 6 14 false,
 i1g 16 14 false (.nilCheck (.t 15)),
 fg 17 14 false 0 16,
 lg 18 14 false 1 17,
 mvg 19 1 14 false,
 i1g 20 14 false (.eqB true (.t 18) (.t 19)),
 po 21 14 20,
 mv 22 21,
 mvg 23 1 22 false,
 mvg 24 23 22 false,
 mvg 25 6 24 true,
 i1g 26 24 true (.call 166 [(.t 25)]),
 i1g 27 24 true (.un .not (.t 26)),
 i1g 28 22 false (.pick (.t 24) (.t 27) (.c (.bool false))),
 po 29 22 28,
 mv 11 29] [0, 1, 4, 6, 11])
 (.cond (.t 11) (.seq (.reg none [i1 30 (.build [.int .i64 0, .int .i64 0, .str [], .sl true 4 0 []] []),
 st 4 4 30,
 mi 5 11] [4, 5])
 .ret)
 (.seq (.reg none [mv 32 1,
 no 33 32,
 mv 31 33] [0, 4, 6, 31])
 (.cond (.t 31) (.seq (.reg (some 14) [mv 34 0,
 mv 35 0,
 nc 36 35,
 fa 37 3 36,
 ld 38 1 37,
 mv 39 0,
 nc 40 39,
 fa 41 3 40,
 ld 42 1 41,
 le 43 0 42,
 bn 44 .sub 43 1,
 i1 45 (.slice 1 (.t 38) none (some (.t 44)) none),
 nc 46 34,
 fa 47 3 46,
 st 1 47 45] [4, 6])
 (.seq (.reg none [mv 48 6,
 nc 49 48,
 fa 50 1 49,
 i1 51 (.loadF 4 false (.t 50)),
 i1 52 (.build [.int .i64 0, .int .i64 0, .str [], .sl true 4 0 []] [(0, 1, (.c (.int .i64 6))), (3, 1, (.t 51))]),
 st 4 4 52,
 mi 5 0] [4, 5])
 .ret))
 .skip)))))
 (.seq (.reg none [mv 54 6,
 nc 55 54,
 fa 56 1 55,
 i1 57 (.loadF 4 false (.t 56)),
 c1 58 167 57,
 i1 53 (.movT (.t 58)),
 ex 59 53 0,
 ex 60 53 1,
 mv 7 59,
 mv 8 60] [0, 4, 7, 8])
 (.seq (.seq (.reg none [mv 61 8,
 bn 62 .neq 61 0] [0, 4, 7, 8, 62])
 (.cond (.t 62) (.seq (.reg none [i1 63 (.build [.int .i64 0, .int .i64 0, .str [], .sl true 4 0 []] []),
 mv 64 8,
 st 4 4 63,
 mv 5 64] [4, 5])
 .ret)
 .skip))
 (.seq (.reg (some 14) [mv 65 0,
 mv 66 0,
 nc 67 66,
 fa 68 3 67,
 ld 69 1 68,
 mv 70 0,
 nc 71 70,
 fa 72 3 71,
 ld 73 1 72,
 le 74 0 73,
 bn 75 .sub 74 1,
 i1 76 (.slice 1 (.t 69) none (some (.t 75)) none),
 nc 77 65,
 fa 78 3 77,
 st 1 78 76] [4, 7])
 (.seq (.reg none [mv 79 7,
 i1 80 (.build [.int .i64 0, .int .i64 0, .str [], .sl true 4 0 []] [(0, 1, (.c (.int .i64 7))), (3, 1, (.t 79))]),
 st 4 4 80,
 mi 5 0] [4, 5])
 .ret)))))))
def res_parse_stack_end : List IRes := [⟨4, false, some (4, true)⟩, ⟨5, true, none⟩]
theorem is_parse_stack_end : fnIs Go.Proofs.Tryz.prog 127 81 res_parse_stack_end ir_parse_stack_end = true := by kernel_rfl
def ir_parse_stack_single : IC :=
 (.seq (.reg none [i1 3 (.boxL 8 (.t 1)),
 i1 4 (.allocL [.int .i64 0, .int .i64 0, .str [], .sl true 4 0 []]),
 mi 5 0] [0, 3, 4])
 (.seq (.seq (.reg none [mv 7 0,
 c1 8 97 7,
 mv 6 8] [0, 3, 4, 6])
 (.seq (.reg none [mv 9 6,
 i1 10 (.eqP true (.t 9) (.c (.nilp))),
 mv 11 10,
 mvg 12 6 11 true,
 i1g 13 11 true (.call 166 [(.t 12)]),
 pf 14 11 13,
 mv 15 14,
 fg 16 15 true 0 3,
 lg 17 15 true 1 16,
 i1g 18 15 true (.bin .neq (.t 17) (.c (.int .i64 1))),
 mvg 19 18 15 true,
 fg 20 19 false 3 3,
 fg 21 19 false 0 20,
 lg 22 19 false 1 21,
 i1g 23 19 false (.bin .neq (.t 22) (.c (.int .i64 5))),
 i1g 24 15 true (.pick (.t 19) (.c (.bool true)) (.t 23)),
 pf 25 15 24] [0, 3, 4, 25])
 (.cond (.t 25) (.seq (.reg none [i1 26 (.build [.int .i64 0, .int .i64 0, .str [], .sl true 4 0 []] []),
 st 4 4 26,
 mi 5 11] [4, 5])
 .ret)
 .skip)))
 (.seq (.block 0 (.seq (.reg none [fa 28 0 3,
 ld 29 1 28,
 bn 30 .eql 29 6,
 mv 27 30] [0, 3, 4, 27])
 (.cond (.t 27) (.seq (.reg none [fa 31 7 3,
 ld 32 1 31,
 c1 33 168 32,
 ex 34 33 0,
 ex 35 33 1,
 st 4 4 34,
 mv 5 35] [4, 5])
 .ret)
 (.seq (.reg none [lm 37 8 3,
 c1 38 93 37,
 mv 36 38] [0, 3, 4, 36])
 (.cond (.t 36) (.seq (.reg none [mv 39 0,
 fa 40 3 3,
 lm 41 4 40,
 c2 42 169 39 41,
 ex 43 42 0,
 ex 44 42 1,
 st 4 4 43,
 mv 5 44] [4, 5])
 .ret)
 .skip)))))
 (.seq (.reg none [fa 45 3 3,
 lm 46 4 45,
 st 4 4 46,
 mi 5 0] [4, 5])
 .ret))))
def res_parse_stack_single : List IRes := [⟨4, false, some (4, true)⟩, ⟨5, true, none⟩]
theorem is_parse_stack_single : fnIs Go.Proofs.Tryz.prog 128 47 res_parse_stack_single ir_parse_stack_single = true := by kernel_rfl
def ir_parse_stack_step : IC :=
 (.seq (.reg none [i1 3 (.boxL 8 (.t 1)),
 i1 4 (.allocL [.int .i64 0, .int .i64 0, .str [], .sl true 4 0 []]),
 mkk 5 (.bool false),
 mi 6 0] [0, 3, 4])
 (.seq (.reg none [i1 7 (.allocL [.int .i64 0, .int .i64 0, .str [], .sl true 4 0 []])] [0, 3, 4, 7])
 (.seq (.reg none [mi 8 0] [0, 3, 4, 7])
 (.seq (.seq (.reg none [fa 9 0 3,
 ld 10 1 9] [0, 3, 4, 7, 10])
 (.block 0 (.seq (.reg none [bn 28 .eql 10 0,
 mv 27 28] [0, 3, 4, 7, 10, 27])
 (.cond (.t 27) (.seq (.reg none [lm 29 4 7,
 st 4 4 29,
 mkk 5 (.bool false),
 mi 6 10] [4, 5, 6])
 .ret)
 (.seq (.seq (.reg none [bn 31 .eql 10 2,
 mv 30 31] [0, 3, 4, 7, 10, 30])
 (.cond (.t 30) .skip
 (.reg none [bn 32 .eql 10 4,
 mv 30 32] [0, 3, 4, 7, 10, 30])))
 (.cond (.t 30) (.seq (.regB [4] [(1, 0, lm 33 4 7),
 (0, 1, mv 34 0),
 (0, 2, fa 35 0 3),
 (0, 3, ld 36 1 35),
 (0, 4, bn 37 .eql 36 4),
 (2, 5, c2 38 126 34 37),
 (0, 6, st 4 4 33),
 (0, 7, mkk 5 (.bool false)),
 (0, 8, mv 6 38)] [4, 5, 6])
 .ret)
 (.seq (.seq (.reg none [bn 40 .eql 10 3,
 mv 39 40] [0, 3, 4, 7, 10, 39])
 (.cond (.t 39) .skip
 (.reg none [bn 41 .eql 10 5,
 mv 39 41] [0, 3, 4, 7, 39])))
 (.cond (.t 39) (.reg none [mv 43 0,
 fa 44 0 3,
 ld 45 1 44,
 bn 46 .eql 45 5,
 c2 47 127 43 46,
 i1 42 (.movT (.t 47)),
 ex 48 42 0,
 ex 49 42 1,
 st 4 7 48,
 mv 8 49] [4, 7, 8])
 (.seq (.reg none [mv 12 0,
 lm 13 8 3,
 c2 14 128 12 13,
 i1 11 (.movT (.t 14)),
 ex 15 11 0,
 ex 16 11 1,
 st 4 7 15,
 mv 8 16] [0, 4, 7, 8])
 (.seq (.reg none [mv 17 8,
 bn 18 .eql 17 0,
 mv 19 18,
 mvg 20 0 19 true,
 i1g 21 19 true (.nilCheck (.t 20)),
 fg 22 19 true 3 21,
 lg 23 19 true 1 22,
 i1g 24 19 true (.len 0 (.t 23)),
 i1g 25 19 true (.bin .geq (.t 24) (.c (.int .i64 64))),
 pf 26 19 25] [4, 7, 8, 26])
 (.cond (.t 26) (.reg none [mi 8 15] [4, 7, 8])
 .skip)))))))))))
 (.seq (.reg none [lm 50 4 7,
 mv 51 8,
 bn 52 .eql 51 0,
 mv 53 8,
 st 4 4 50,
 mv 5 52,
 mv 6 53] [4, 5, 6])
 .ret)))))
def res_parse_stack_step : List IRes := [⟨4, false, some (4, true)⟩, ⟨5, true, none⟩, ⟨6, true, none⟩]
theorem is_parse_stack_step : fnIs Go.Proofs.Tryz.prog 96 54 res_parse_stack_step ir_parse_stack_step = true := by kernel_rfl
structure RefE where
 n : Option Nat
def RefE.c (x : RefE) : AV := match x.n with
 | none => .nilp
 | some b => .ref b 0
instance : Enc RefE := ⟨1, fun x => [x.c], ⟨none⟩, by decide, fun _ => rfl, fun x => by
 obtain ⟨_ | b⟩ := x <;> rfl⟩
def refs (ids : List (Nat × RowP)) : List RefE := ids.map fun i => ⟨some i.1⟩
def lvC (r : RowP) (v : parse_level) : SO := .cells [.bool v.dict_, rowA r v.l_.length]
def lvH (id : Nat × RowP) (v : parse_level) : List (Nat × SO) := (id.1, lvC id.2 v) :: rowH id.2 v.l_
def lvsH : List (Nat × RowP) → List parse_level → List (Nat × SO)
 | id :: ids, v :: vs => lvH id v ++ lvsH ids vs
 | _, _ => []
def lvsF : List (Nat × RowP) → List parse_level → Prop
 | id :: ids, v :: vs => rowF id.2 v.l_ ∧ lvsF ids vs
 | [], [] => True
 | _, _ => False
theorem lvsF_len : ∀ {ids : List (Nat × RowP)} {vs : List parse_level}, lvsF ids vs → ids.length = vs.length
 | [], [], _ => rfl
 | _ :: ids, _ :: vs, h => by rw [List.length_cons, List.length_cons, lvsF_len h.2]
 | [], _ :: _, h => h.elim
 | _ :: _, [], h => h.elim
structure PS where
 b : List UInt8
 at_ : Int
 last : Bool
 st : List parse_level
def stkC (p : PS) (rr : RowP) : List AV := [.sl false 1 p.b.length (flat p.b), .int .i64 p.at_, .bool p.last, rowA rr p.st.length]
def StI (s0 s : Store) (B : Nat) (p : PS) (rr : RowP) (ids : List (Nat × RowP)) : Prop :=
 lvsF ids p.st ∧ rowF rr (refs ids.reverse) ∧ Holds s0 s ((B, .cells (stkC p rr)) :: (rowH rr (refs ids.reverse) ++ lvsH ids p.st))
theorem refs_len (ids : List (Nat × RowP)) : (refs ids).length = ids.length := by unfold refs; simp
theorem StI.cell {s0 s : Store} {B : Nat} {p : PS} {rr : RowP} {ids : List (Nat × RowP)} (h : StI s0 s B p rr ids) : s B = some (.cells (stkC p rr)) := h.2.2.get
theorem StI.ref {s0 s : Store} {B : Nat} {p : PS} {rr : RowP} {id : Nat × RowP} {ids : List (Nat × RowP)} (h : StI s0 s B p rr (id :: ids)) :
  ∃ rb cap sp, rr = some (rb, cap, sp) ∧ s rb = some (.cells (flat (refs (id :: ids).reverse) ++ sp)) ∧ (flat (refs (id :: ids).reverse) ++ sp)[ids.length]? = some (.ref id.1 0) := by
 obtain ⟨h1, h2, h3⟩ := h
 have hl : 0 < (refs (id :: ids).reverse).length := by rw [refs_len]; simp
 cases rr with
 | none => rw [show refs (id :: ids).reverse = [] from h2] at hl; simp at hl
 | some x =>
  obtain ⟨rb, cap, sp⟩ := x
  refine ⟨rb, cap, sp, rfl, h3.mem (by simp [rowH]), ?_⟩
  have hi : ids.length < (refs (id :: ids).reverse).length := by rw [refs_len]; simp
  have := flat_cell2 (refs (id :: ids).reverse) sp (i := ids.length) (r := 0) hi (by decide)
  rw [show ids.length * Enc.w RefE + 0 = ids.length by show ids.length * 1 + 0 = _; omega] at this
  rw [this]
  have e : (refs (id :: ids).reverse)[ids.length] = ⟨some id.1⟩ := by
   unfold refs
   simp
  rw [e]; rfl
theorem sub_at1 {cs : List AV} {off : Nat} {a : AV} (h : cs[off]? = some a) : off + 1 ≤ cs.length ∧ AB.sub cs off 1 = [a] := by
 obtain ⟨h1, h2⟩ := List.getElem?_eq_some_iff.1 h
 refine ⟨h1, ?_⟩
 unfold AB.sub
 rw [List.drop_eq_getElem_cons h1, h2]; rfl
theorem loadS_ref {cs : List AV} {off b : Nat} (h : cs[off]? = some (.ref b 0)) : loadS [.nilp] false off (some (.cells cs)) = .prt (off + 1 ≤ cs.length) (.ref b 0) := by
 show ckP _ (aggOf false (pad [.nilp] (views (AB.sub cs off 1)))) = _
 rw [(sub_at1 h).2]
 rfl
theorem top_fn {s0 s : Store} {B : Nat} {p : PS} {rr : RowP} {ids : List (Nat × RowP)} (h : StI s0 s B p rr ids) (hroom : p.st.length ≤ room) {Q : List AV → Store → Prop} (hn : p.st = [] → Q [.nilp] s)
  (hc : ∀ id ids' v vs, ids = id :: ids' → p.st = v :: vs → Q [.ref id.1 0] s) : FN Go.Proofs.Tryz.prog 97 [.ref B 0] s Q := by
 have hB := h.cell
 have hlen := lvsF_len h.1
 refine FN.of (draw_ok mix) is_parse_stack_top rfl (Nat.le_of_ble_eq_true rfl) ?_
 rw [ir_parse_stack_top, res_parse_stack_top]
 unfold stkC at hB
 simp -implicitDefEqProofs only [go_sem, start, startE, resVs, resV, resC, allV, retK, Nat.reduceBEq, Nat.reduceAdd, Nat.reduceMul, Nat.reduceLeDiff, Nat.reduceEqDiff, Nat.reduceBNe, Nat.ble_eq, UInt8.reduceToNat, UInt32.reduceToNat, hB]
 refine ⟨fun he => hn (List.eq_nil_of_length_eq_zero (by simpa using he)), fun hne => ?_⟩
 have hne : p.st.length ≠ 0 := by simpa using hne
 cases hst : p.st with
 | nil => rw [hst] at hne; exact absurd rfl hne
 | cons v vs =>
 cases ids with
 | nil => rw [hst] at hlen; simp at hlen
 | cons id ids' =>
 obtain ⟨rb, cap, sp, rfl, h1, h2⟩ := h.ref
 have hl : p.st.length = ids'.length + 1 := by rw [← hlen]; rfl
 rw [← hst]
 have hr : room = 140737488355328 := rfl
 have hw : w64 ((p.st.length : Int) - 1) = (ids'.length : Int) := by rw [w64_id (by omega) (by omega)]; omega
 rw [hw]
 refine ⟨by omega, ?_⟩
 show qK _ _ _ (loadS _ _ _ (s rb))
 rw [h1, Int.toNat_natCast, Nat.mul_one, loadS_ref h2]
 simp -implicitDefEqProofs only [go_sem, start, startE, resVs, resV, resC, allV, retK, Nat.reduceBEq, Nat.reduceAdd, Nat.reduceMul, Nat.reduceLeDiff, Nat.reduceEqDiff, Nat.reduceBNe, Nat.ble_eq, UInt8.reduceToNat, UInt32.reduceToNat]
 exact ⟨by have := (sub_at1 h2).1; rwa [List.length_append] at this, hc id ids' v vs rfl hst⟩
theorem wants_fn {s : Store} {B n : Nat} {d : Bool} {r : RowP} {Q : List AV → Store → Prop} (hB : s B = some (.cells [.bool d, rowA r n])) (hq : Q [.bool (d && ((n : Int).tmod 2 == 0))] s) : FN Go.Proofs.Tryz.prog 166 [.ref B 0] s Q := by
 refine FN.of (draw_ok mix) is_parse_level_wantsA rfl (Nat.le_of_ble_eq_true rfl) ?_
 rw [ir_parse_level_wantsA, res_parse_level_wantsA]
 simp -implicitDefEqProofs only [go_sem, start, startE, resVs, resV, resC, allV, retK, Nat.reduceBEq, Nat.reduceAdd, Nat.reduceMul, Nat.reduceLeDiff, Nat.reduceEqDiff, Nat.reduceBNe, Nat.ble_eq, UInt8.reduceToNat, UInt32.reduceToNat, hB]
 exact hq
def topWants : List parse_level → Bool
 | [] => false
 | v :: _ => v.dict_ && ((v.l_.length : Int).tmod 2 == 0)
theorem StI.lv {s0 s : Store} {B : Nat} {p : PS} {rr : RowP} {id : Nat × RowP} {ids : List (Nat × RowP)} {v : parse_level} {vs : List parse_level} (h : StI s0 s B p rr (id :: ids)) (hst : p.st = v :: vs) : s id.1 = some (lvC id.2 v) := by
 refine h.2.2.mem ?_
 rw [hst]
 simp [lvsH, lvH]
theorem refs_cons (id : Nat × RowP) (ids : List (Nat × RowP)) : refs (id :: ids).reverse = refs ids.reverse ++ [⟨some id.1⟩] := by unfold refs; simp
theorem begin_app {σ : St} {d : Option Nat} {K : St → Prop} {s0 s : Store} {B b : Nat} {p : PS} {rr : RowP} {ids : List (Nat × RowP)} {dict : Bool} (h : StI s0 s B p rr ids) (hroom : p.st.length ≤ 64) (hb : s b = none) (hσ : σ.s = s.set b (.cells [.bool dict, .arr 0 0 0 0]))
    (hK : ∀ s1 rr', s1 B = some (.cells (stkC p rr)) → (∃ ids', StI s0 (s1.set B (.cells (stkC { p with st := ⟨dict, []⟩ :: p.st } rr'))) B { p with st := ⟨dict, []⟩ :: p.st } rr' ids') → K ({ σ with s := s1 }.put d (rowA rr' (p.st.length + 1)))) :
    appendAW 1 8 [.nilp] σ d K (rowA rr p.st.length) (srcV σ.s 1 (.sl true 1 1 [.ref b 0])) := by
  obtain ⟨h1, h2, h3⟩ := h
  have hlen := lvsF_len h1
  have hr : room = 140737488355328 := rfl
  have hl : (refs ids.reverse).length = p.st.length := by rw [refs_len]; simp [hlen]
  have H0 := h3.alloc (o := .cells [.bool dict, .arr 0 0 0 0]) hb
  have H0' : Holds s0 (s.set b (.cells [.bool dict, .arr 0 0 0 0])) (rowH rr (refs ids.reverse) ++ ([(b, .cells [.bool dict, .arr 0 0 0 0]), (B, .cells (stkC p rr))] ++ lvsH ids p.st)) :=
    H0.perm (List.perm_append_comm_assoc [(b, SO.cells [.bool dict, .arr 0 0 0 0]), (B, SO.cells (stkC p rr))] _ _)
  obtain ⟨s1, e, ok, H1⟩ := H0'.row h2
  rw [srcV_sl, ← hl]
  refine app_row (z := (⟨none⟩ : RefE)) (v := (⟨some b⟩ : RefE)) (hσ.trans e) ok rfl (by rw [hl]; omega) fun s' r' hs' ok' => ?_
  rw [hl]
  obtain ⟨H2, hf⟩ := (H1.sub hs').unrow ok'
  have H3 : Holds s0 (rowS s' r' (refs ids.reverse ++ [⟨some b⟩])) ((B, .cells (stkC p rr)) :: (rowH r' (refs ids.reverse ++ [⟨some b⟩]) ++ ((b, .cells [.bool dict, .arr 0 0 0 0]) :: lvsH ids p.st))) := by
    refine H2.perm ?_
    refine (List.perm_append_comm_assoc _ [(b, SO.cells [.bool dict, .arr 0 0 0 0]), (B, SO.cells (stkC p rr))] _).trans ?_
    refine (List.Perm.swap ..).trans ?_
    refine List.Perm.cons _ ?_
    exact List.perm_append_comm_assoc [(b, SO.cells [.bool dict, .arr 0 0 0 0])] _ _
  refine hK _ r' H3.get ⟨(b, none) :: ids, ⟨rfl, h1⟩, ?_, ?_⟩
  · rw [refs_cons]; exact hf
  · rw [refs_cons]
    exact H3.set
theorem begin_fn {s0 s : Store} {B : Nat} {p : PS} {rr : RowP} {ids : List (Nat × RowP)} (h : StI s0 s B p rr ids) (hroom : p.st.length ≤ 64) {dict : Bool} {Q : List AV → Store → Prop} (he : topWants p.st = true → Q [.int .i64 11] s)
    (hd : topWants p.st = false → 64 ≤ p.st.length → Q [.int .i64 15] s)
    (hk : topWants p.st = false → p.st.length < 64 → ∀ s' rr' ids', StI s0 s' B { p with st := ⟨dict, []⟩ :: p.st } rr' ids' → Q [.int .i64 0] s') : FN Go.Proofs.Tryz.prog 126 [.ref B 0, .bool dict] s Q := by
  have hB := h.cell
  have hlen := lvsF_len h.1
  have hr : room = 140737488355328 := rfl
  -- behind the first question
  have rest : topWants p.st = false → ∀ (Q' : Prop) , Q' → Q' := fun _ _ x => x
  refine FN.of (draw_ok mix) is_parse_stack_begin rfl (Nat.le_of_ble_eq_true rfl) ?_
  rw [ir_parse_stack_begin, res_parse_stack_begin]
  unfold stkC at hB
  simp -implicitDefEqProofs only [go_sem, start, startE, resVs, resV, resC, allV, retK, Nat.reduceBEq, Nat.reduceAdd, Nat.reduceMul, Nat.reduceLeDiff, Nat.reduceEqDiff, Nat.reduceBNe, Nat.ble_eq, UInt8.reduceToNat, UInt32.reduceToNat]
  refine top_fn h (by omega) (fun hst => ?_) (fun id ids' v vs hids hst => ?_)
  · simp -implicitDefEqProofs only [go_sem, start, startE, resVs, resV, resC, allV, retK, Nat.reduceBEq, Nat.reduceAdd, Nat.reduceMul, Nat.reduceLeDiff, Nat.reduceEqDiff, Nat.reduceBNe, Nat.ble_eq, UInt8.reduceToNat, UInt32.reduceToNat, hB]
    refine ⟨[.bool false], rfl, fun h => (by cases h), ?_⟩
    have hw : topWants p.st = false := by rw [hst]; rfl
    simp -implicitDefEqProofs only [go_sem, start, startE, resVs, resV, resC, allV, retK, Nat.reduceBEq, Nat.reduceAdd, Nat.reduceMul, Nat.reduceLeDiff, Nat.reduceEqDiff, Nat.reduceBNe, Nat.ble_eq, UInt8.reduceToNat, UInt32.reduceToNat, hB, Bool.false_and, Bool.and_false]
    refine ⟨fun hx => he (by first | exact hx | exact absurd hx id), fun hx => ?_⟩
    have hw : topWants p.st = false := by first | exact hw | exact hx
    refine ⟨fun hx => hd hw (by have := of_decide_eq_true hx; omega), fun hx b hb => ?_⟩
    have hlt : p.st.length < 64 := by have := of_decide_eq_false hx; omega
    refine begin_app h hroom hb rfl fun s1 rr' hB1 ⟨ids', hst'⟩ => ?_
    unfold stkC at hB1
    simp -implicitDefEqProofs only [go_sem, start, startE, resVs, resV, resC, allV, retK, Nat.reduceBEq, Nat.reduceAdd, Nat.reduceMul, Nat.reduceLeDiff, Nat.reduceEqDiff, Nat.reduceBNe, Nat.ble_eq, UInt8.reduceToNat, UInt32.reduceToNat, hB1]
    exact hk hw hlt _ _ _ hst'
  · simp -implicitDefEqProofs only [go_sem, start, startE, resVs, resV, resC, allV, retK, Nat.reduceBEq, Nat.reduceAdd, Nat.reduceMul, Nat.reduceLeDiff, Nat.reduceEqDiff, Nat.reduceBNe, Nat.ble_eq, UInt8.reduceToNat, UInt32.reduceToNat, hB]
    subst hids
    have hlv := h.lv hst
    refine ⟨[.bool (topWants p.st)], rfl, fun _ => ⟨_, rfl, wants_fn hlv (by rw [hst]; exact ⟨rfl, rfl⟩)⟩, ?_⟩
    simp -implicitDefEqProofs only [go_sem, start, startE, resVs, resV, resC, allV, retK, Nat.reduceBEq, Nat.reduceAdd, Nat.reduceMul, Nat.reduceLeDiff, Nat.reduceEqDiff, Nat.reduceBNe, Nat.ble_eq, UInt8.reduceToNat, UInt32.reduceToNat, hB, Bool.true_and, Bool.and_true]
    refine ⟨fun hx => he (by first | exact hx | exact absurd hx id), fun hx => ?_⟩
    have hw : topWants p.st = false := by first | exact hw | exact hx
    refine ⟨fun hx => hd hw (by have := of_decide_eq_true hx; omega), fun hx b hb => ?_⟩
    have hlt : p.st.length < 64 := by have := of_decide_eq_false hx; omega
    refine begin_app h hroom hb rfl fun s1 rr' hB1 ⟨ids', hst'⟩ => ?_
    unfold stkC at hB1
    simp -implicitDefEqProofs only [go_sem, start, startE, resVs, resV, resC, allV, retK, Nat.reduceBEq, Nat.reduceAdd, Nat.reduceMul, Nat.reduceLeDiff, Nat.reduceEqDiff, Nat.reduceBNe, Nat.ble_eq, UInt8.reduceToNat, UInt32.reduceToNat, hB1]
    exact hk hw hlt _ _ _ hst'
theorem frzF {σ : St} {d : Option Nat} {K : St → Prop} {s0 : Store} {R : List (Nat × SO)} {r : RowP} {l : List api_Value} (hσ : Holds s0 σ.s (rowH r l ++ R)) (hf : rowF r l)
  (hK : ∀ s2, Holds s0 s2 R → K ({ σ with s := s2 }.put d (.sl false 4 l.length (flat l)))) : frzW 4 false σ d K (rowA r l.length) := by
 cases r with
 | none =>
  obtain rfl : l = [] := hf
  exact .inl ⟨rfl, rfl, rfl, hK σ.s hσ⟩
 | some x =>
  obtain ⟨b, cap, sp⟩ := x
  obtain ⟨f1, f2, f3, f4⟩ := hf
  have hσ' : Holds s0 σ.s ((b, .cells (flat l ++ sp)) :: R) := hσ
  refine .inr ⟨f1, f2, fun h => (by cases h), ?_⟩
  have hle : 0 + l.length * 4 ≤ (flat l ++ sp).length := by
   rw [f3, Nat.zero_add]; exact Nat.mul_le_mul_right _ f2
  have hc : cellsAt l.length 4 0 (σ.s b) = some (l.length, flat l) := by
   rw [hσ'.get]
   unfold cellsAt
   simp only [decide_eq_true hle, cond_true]
   have := row_sub l sp 4 0 l.length rfl (by omega)
   rw [Nat.zero_mul] at this
   rw [this, List.drop_zero, List.take_length, flat_views]
  show frzW.frzK 4 false σ d K b l.length (cellsAt l.length 4 0 (σ.s b))
  rw [hc]
  exact hK _ hσ'.del.1
theorem StI.pop {s0 s : Store} {B : Nat} {p : PS} {rr : RowP} {id : Nat × RowP} {ids : List (Nat × RowP)} {v : parse_level} {vs : List parse_level} (h : StI s0 s B p rr (id :: ids)) (hst : p.st = v :: vs) :
    ∃ rr', rowB rr' = rowB rr ∧ rowC rr' = rowC rr ∧ rowF rr' (refs ids.reverse) ∧ lvsF ids vs ∧ rowF id.2 v.l_ ∧ Holds s0 s ((B, .cells (stkC p rr)) :: (rowH rr' (refs ids.reverse) ++ (lvH id v ++ lvsH ids vs))) := by
  have hr := h.ref
  obtain ⟨rb, cap, sp, rfl, _, _⟩ := hr
  obtain ⟨h1, h2, h3⟩ := h
  rw [hst] at h1 h3
  obtain ⟨f1, f2, f3, f4⟩ := h2
  have e : flat (refs (id :: ids).reverse) ++ sp = flat (refs ids.reverse) ++ (.ref id.1 0 :: sp) := by
    rw [refs_cons, flat_append, List.append_assoc]; rfl
  refine ⟨some (rb, cap, .ref id.1 0 :: sp), rfl, rfl, ⟨f1, ?_, ?_, ?_⟩, h1.2, h1.1, ?_⟩
  · rw [refs_len] at f2 ⊢; simp at f2 ⊢; omega
  · rw [← e]; exact f3
  · unfold views at f4 ⊢; rw [List.map_cons, f4]; rfl
  · unfold rowH at h3 ⊢
    simp only [] at h3 ⊢
    rw [← e]
    exact h3
theorem lv_perm {s0 s : Store} {X : Nat × SO} {R T : List (Nat × SO)} {id : Nat × RowP} {v : parse_level} (h : Holds s0 s (X :: (R ++ (lvH id v ++ T)))) : Holds s0 s (rowH id.2 v.l_ ++ (X :: (R ++ T))) := by
 have p1 : (X :: (R ++ (lvH id v ++ T))).Perm ((id.1, lvC id.2 v) :: ((X :: R) ++ (rowH id.2 v.l_ ++ T))) := List.perm_middle (l₁ := X :: R)
 have p2 : ((X :: R) ++ (rowH id.2 v.l_ ++ T)).Perm (rowH id.2 v.l_ ++ ((X :: R) ++ T)) := List.perm_append_comm_assoc ..
 exact (h.perm p1).tail.perm p2
def zeroV4 : List AV := [.int .i64 0, .int .i64 0, .str [], .sl false 4 0 []]
def endBad (st : List parse_level) (dict : Bool) : Bool := match st with
 | [] => true
 | v :: _ => (v.dict_ != dict) || (dict && !topWants st)
abbrev PairsOK (pf : List api_Value → Option (List api_Value × Int)) : Prop := ∀ (s : Store) (l : List api_Value) (r : List api_Value × Int), pf l = some r → FE Go.Proofs.Tryz.prog 167 [.sl false 4 l.length (flat l)] s [.sl false 4 r.1.length (flat r.1), .int .i64 r.2] s
@[go_sem] theorem nilCheckV_nilp : nilCheckV .nilp = .no := rfl
@[go_sem] theorem fieldAddrV_tup0 (o : Nat) (x : IX) : fieldAddrV o x (.tup []) = .no := rfl
@[go_sem] theorem rd_tup0 (σ : St) (n : Nat) : rd σ (.tup []) n = none := rfl
@[go_sem] theorem unV_tup0 (op : UnOp) : unV op (.tup []) = .no := by cases op <;> rfl
@[go_sem] theorem eqBV_tup0 (ne : Bool) (y : AV) : eqBV ne (.tup []) y = .no := rfl
theorem end_fn {pf : List api_Value → Option (List api_Value × Int)} (hpf : PairsOK pf) {s0 s : Store} {B : Nat} {p : PS} {rr : RowP} {ids : List (Nat × RowP)} (h : StI s0 s B p rr ids) (hroom : p.st.length ≤ 64) {dict : Bool} {Q : List AV → Store → Prop}
    (h0 : endBad p.st dict = true → Q [.agg zeroV4, .int .i64 11] s)
    (hA : ∀ v vs, p.st = v :: vs → dict = false → endBad p.st dict = false → ∀ s' rr' ids', StI s0 s' B { p with st := vs } rr' ids' → Q [.agg [.int .i64 6, .int .i64 0, .str [], .sl false 4 v.l_.length (flat v.l_)], .int .i64 0] s')
    (hD : ∀ v vs, p.st = v :: vs → dict = true → endBad p.st dict = false → ok (pf v.l_) fun r => (r.2 ≠ 0 → ∀ s', Sub s0 s' → Q [.agg zeroV4, .int .i64 r.2] s') ∧
      (r.2 = 0 → ∀ s' rr' ids', StI s0 s' B { p with st := vs } rr' ids' → Q [.agg [.int .i64 7, .int .i64 0, .str [], .sl false 4 r.1.length (flat r.1)], .int .i64 0] s')) : FN Go.Proofs.Tryz.prog 127 [.ref B 0, .bool dict] s Q := by
  have hB := h.cell
  have hlen := lvsF_len h.1
  have hr : room = 140737488355328 := rfl
  refine FN.of (draw_ok mix) is_parse_stack_end rfl (Nat.le_of_ble_eq_true rfl) ?_
  rw [ir_parse_stack_end, res_parse_stack_end]
  unfold stkC at hB
  simp -implicitDefEqProofs only [go_sem, start, startE, resVs, resV, resC, allV, retK, Nat.reduceBEq, Nat.reduceAdd, Nat.reduceMul, Nat.reduceLeDiff, Nat.reduceEqDiff, Nat.reduceBNe, Nat.ble_eq, UInt8.reduceToNat, UInt32.reduceToNat]
  refine top_fn h (by omega) (fun hst => ?_) (fun id ids' v vs hids hst => ?_)
  · have hbad : endBad p.st dict = true := by rw [hst]; rfl
    simp -implicitDefEqProofs only [go_sem, start, startE, resVs, resV, resC, allV, retK, Nat.reduceBEq, Nat.reduceAdd, Nat.reduceMul, Nat.reduceLeDiff, Nat.reduceEqDiff, Nat.reduceBNe, Nat.ble_eq, UInt8.reduceToNat, UInt32.reduceToNat, hB, Bool.true_eq_false, false_implies, true_implies, true_and]
    exact h0 hbad
  · subst hids
    have hlv := h.lv hst
    unfold lvC at hlv
    have hbd : endBad p.st dict = ((v.dict_ != dict) || (dict && !topWants p.st)) := by rw [hst]; rfl
    have htw : topWants p.st = (v.dict_ && ((v.l_.length : Int).tmod 2 == 0)) := by rw [hst]; rfl
    simp -implicitDefEqProofs only [go_sem, start, startE, resVs, resV, resC, allV, retK, Nat.reduceBEq, Nat.reduceAdd, Nat.reduceMul, Nat.reduceLeDiff, Nat.reduceEqDiff, Nat.reduceBNe, Nat.ble_eq, UInt8.reduceToNat, UInt32.reduceToNat, hB]
    cases hdv : v.dict_ <;> cases dict
    all_goals (rw [hdv] at hlv; simp -implicitDefEqProofs only [go_sem, start, startE, resVs, resV, resC, allV, retK, Nat.reduceBEq, Nat.reduceAdd, Nat.reduceMul, Nat.reduceLeDiff, Nat.reduceEqDiff, Nat.reduceBNe, Nat.ble_eq, UInt8.reduceToNat, UInt32.reduceToNat, hB, hlv, Bool.true_eq_false, Bool.false_eq_true, false_implies, true_implies, true_and, and_true, beq_self_eq_true, Bool.and_self, Bool.not_true, Bool.not_false, Bool.and_false, Bool.false_and, Bool.and_true, Bool.true_and])
    · have hbf : endBad p.st false = false := by rw [hbd, hdv]; rfl
      obtain ⟨rr', e1, e2, f1, f2, f3, H⟩ := h.pop hst
      have hcap : p.st.length ≤ rowC rr := by
        obtain ⟨rb, cap, sp, rfl, _, _⟩ := h.ref
        have := h.2.1.2.1
        rw [refs_len, List.length_reverse, hlen] at this
        exact this
      have hn : p.st.length = vs.length + 1 := by rw [hst]; rfl
      have hw : w64 ((p.st.length : Int) - 1) = (vs.length : Int) := by rw [w64_id (by omega) (by omega)]; omega
      rw [hw]
      refine ⟨⟨by omega, by omega, by omega⟩, ?_⟩
      have H' := H.set (o' := .cells (stkC { p with st := vs } rr'))
      have es : stkC { p with st := vs } rr' = [.sl false 1 p.b.length (flat p.b), .int .i64 p.at_, .bool p.last, .arr (rowB rr) 0 (vs.length : Int).toNat (rowC rr)] := by
        unfold stkC rowA
        rw [e1, e2]; rfl
      rw [es] at H'
      have hl2 := H'.mem (k := id.1) (o := lvC id.2 v) (by simp [lvH])
      rw [hl2]
      unfold lvC
      simp -implicitDefEqProofs only [go_sem, start, startE, resVs, resV, resC, allV, retK, Nat.reduceBEq, Nat.reduceAdd, Nat.reduceMul, Nat.reduceLeDiff, Nat.reduceEqDiff, Nat.reduceBNe, Nat.ble_eq, UInt8.reduceToNat, UInt32.reduceToNat]
      refine frzF (lv_perm H') f3 fun s2 H2 => ?_
      simp -implicitDefEqProofs only [go_sem, start, startE, resVs, resV, resC, allV, retK, Nat.reduceBEq, Nat.reduceAdd, Nat.reduceMul, Nat.reduceLeDiff, Nat.reduceEqDiff, Nat.reduceBNe, Nat.ble_eq, UInt8.reduceToNat, UInt32.reduceToNat]
      exact hA v vs hst rfl hbf s2 rr' ids' ⟨f2, f1, by rw [es]; exact H2⟩
    · exact h0 (by rw [hbd, hdv]; rfl)
    · exact h0 (by rw [hbd, hdv]; rfl)
    · refine wants_fn hlv ?_
      simp -implicitDefEqProofs only [go_sem, start, startE, resVs, resV, resC, allV, retK, Nat.reduceBEq, Nat.reduceAdd, Nat.reduceMul, Nat.reduceLeDiff, Nat.reduceEqDiff, Nat.reduceBNe, Nat.ble_eq, UInt8.reduceToNat, UInt32.reduceToNat, hB, hlv, Bool.true_eq_false, Bool.false_eq_true, false_implies, true_implies, true_and, and_true, beq_self_eq_true, Bool.and_self, Bool.not_true, Bool.not_false, Bool.and_false, Bool.false_and, Bool.and_true, Bool.true_and]
      have htw' : topWants p.st = ((v.l_.length : Int).tmod 2 == 0) := by rw [htw, hdv]; rfl
      refine ⟨fun hx => h0 (by rw [hbd, hdv, htw']; simpa using hx), fun hx => ?_⟩
      have hbf : endBad p.st true = false := by rw [hbd, hdv, htw']; simpa using hx
      obtain ⟨rr', e1, e2, f1, f2, f3, H⟩ := h.pop hst
      refine frzF (lv_perm H) f3 fun s2 H2 => ?_
      have hB2 := H2.get
      unfold stkC at hB2
      obtain ⟨r, hr1, hr2, hr3⟩ := hD v vs hst rfl hbf
      simp -implicitDefEqProofs only [go_sem, start, startE, resVs, resV, resC, allV, retK, Nat.reduceBEq, Nat.reduceAdd, Nat.reduceMul, Nat.reduceLeDiff, Nat.reduceEqDiff, Nat.reduceBNe, Nat.ble_eq, UInt8.reduceToNat, UInt32.reduceToNat]
      refine FE.app (hpf s2 v.l_ r hr1) ⟨rfl, ?_⟩
      simp -implicitDefEqProofs only [go_sem, start, startE, resVs, resV, resC, allV, retK, Nat.reduceBEq, Nat.reduceAdd, Nat.reduceMul, Nat.reduceLeDiff, Nat.reduceEqDiff, Nat.reduceBNe, Nat.ble_eq, UInt8.reduceToNat, UInt32.reduceToNat, hB2]
      have hcap : p.st.length ≤ rowC rr := by
        obtain ⟨rb, cap, sp, rfl, _, _⟩ := h.ref
        have := h.2.1.2.1
        rw [refs_len, List.length_reverse, hlen] at this
        exact this
      have hn : p.st.length = vs.length + 1 := by rw [hst]; rfl
      have hw : w64 ((p.st.length : Int) - 1) = (vs.length : Int) := by rw [w64_id (by omega) (by omega)]; omega
      rw [hw]
      have es : stkC { p with st := vs } rr' = [.sl false 1 p.b.length (flat p.b), .int .i64 p.at_, .bool p.last, .arr (rowB rr) 0 (vs.length : Int).toNat (rowC rr)] := by
        unfold stkC rowA
        rw [e1, e2]; rfl
      refine ⟨fun hx => hr2 (by simpa using hx) s2 H2.1, fun hx => ⟨⟨by omega, by omega, by omega⟩, ?_⟩⟩
      have H3 := H2.set (o' := .cells (stkC { p with st := vs } rr'))
      rw [es] at H3
      exact hr3 (by simpa using hx) _ rr' ids' ⟨f2, f1, by rw [es]; exact H3⟩
end Go.AB
end

section
set_option maxRecDepth 4000
namespace Go.AB
open Go
attribute [-go_sem] Nat.add_zero ge_0 part_zero
theorem ref_law (b : List UInt8) (a : Int) (last : Bool) (o : AV) (v : api_Value) {r : api_Value × Int × parse_stack} (h : parse_stack_ref ⟨b, a, last, .nilp⟩ v = some r) : parse_stack_ref ⟨b, a, last, o⟩ v = some (r.1, r.2.1, ⟨b, r.2.2.at_, last, o⟩) := by
 unfold parse_stack_ref at h ⊢
 simp only [] at h ⊢
 cases h1 : lex_Next b a last with
 | none => rw [h1] at h; cases h
 | some r1 =>
  rw [h1] at h
  simp only [bnd] at h ⊢
  cases h2 : whenB (!(r1.2 != 0)) false (parse_whole r1.1) with
  | none => rw [h2] at h; cases h
  | some r2 =>
   rw [h2] at h
   simp only [] at h ⊢
   cases h3 : ((r1.2 != 0) || (!r2)) with
   | true =>
    simp only [h3, if_true] at h ⊢
    cases h4 : parse_more r1.2 with
    | none => rw [h4] at h; cases h
    | some r3 =>
     rw [h4] at h; cases h; rfl
   | false =>
    simp only [h3, Bool.false_eq_true, if_false] at h ⊢
    cases h4 : lex_Next b r1.1.To last with
    | none => rw [h4] at h; cases h
    | some r4 =>
     rw [h4] at h
     simp only [] at h ⊢
     cases h5 : (((r4.2 != 0) || (r4.1.Kind != 6)) || (!(r4.1.S.b == (Str.mk [82]).b))) with
     | true =>
      simp only [h5, if_true] at h ⊢
      cases h6 : parse_more r4.2 with
      | none => rw [h6] at h; cases h
      | some r5 => rw [h6] at h; cases h; rfl
     | false =>
      simp only [h5, Bool.false_eq_true, if_false] at h ⊢
      cases h6 : (((decide (v.N < 1)) || (decide (v.N > 4096))) || (r1.1.V.N != 0)) with
      | true => simp only [h6, if_true] at h ⊢; cases h; rfl
      | false => simp only [h6, Bool.false_eq_true, if_false] at h ⊢; cases h; rfl
def zV : api_Value := ⟨0, 0, ⟨[]⟩, []⟩
def vA (v : api_Value) : AV := .agg [.int .i64 v.Kind, .int .i64 v.N, .str v.S.b, .sl false 4 v.L.length (flat v.L)]
def tA (t : lex_Token) : AV := .agg [.int .i64 t.Kind, .int .i64 t.From, .int .i64 t.To, .int .i64 t.V.Kind, .int .i64 t.V.N, .str t.V.S.b, .sl false 4 t.V.L.length (flat t.V.L), .str t.S.b]
def singleM (p : PS) (t : lex_Token) : Option (api_Value × Int × Int) :=
 if topWants p.st && (t.Kind != 1 || t.V.Kind != 5) then some (zV, 11, p.at_)
 else if t.Kind == 6 then bnd (parse_word t.S) fun r => some (r.1, r.2, p.at_)
 else bnd (parse_whole t) fun w => if w then bnd (parse_stack_ref ⟨p.b, p.at_, p.last, .nilp⟩ t.V) fun r => some (r.1, r.2.1, r.2.2.at_) else some (t.V, 0, p.at_)
theorem StI.place {s0 s : Store} {B : Nat} {p : PS} {rr : RowP} {ids : List (Nat × RowP)} (h : StI s0 s B p rr ids) (a : Int) : StI s0 (s.set B (.cells (stkC { p with at_ := a } rr))) B { p with at_ := a } rr ids := ⟨h.1, h.2.1, h.2.2.set⟩
theorem ref_at {s0 s : Store} {B : Nat} {p : PS} {rr : RowP} {ids : List (Nat × RowP)} (h : StI s0 s B p rr ids) {v : api_Value} {r : api_Value × Int × parse_stack} (hr : parse_stack_ref ⟨p.b, p.at_, p.last, .nilp⟩ v = some r) {Q : List AV → Store → Prop}
  (hq : ∀ s', StI s0 s' B { p with at_ := r.2.2.at_ } rr ids → Q [vA r.1, .int .i64 r.2.1] s') : FN Go.Proofs.Tryz.prog 169 [.ref B 0, vA v] s Q := by
 refine parse_stack_ref_fn (s_0 := ⟨p.b, p.at_, p.last, rowA rr p.st.length⟩) h.cell ⟨_, ref_law _ _ _ (rowA rr p.st.length) _ hr, ?_⟩
 exact hq _ (h.place _)
theorem single_fn {s0 s : Store} {B : Nat} {p : PS} {rr : RowP} {ids : List (Nat × RowP)} (h : StI s0 s B p rr ids) (hroom : p.st.length ≤ 64) {t : lex_Token} {Q : List AV → Store → Prop}
    (hm : ok (singleM p t) fun r => ∀ s', StI s0 s' B { p with at_ := r.2.2 } rr ids → Q [vA r.1, .int .i64 r.2.1] s') : FN Go.Proofs.Tryz.prog 128 [.ref B 0, tA t] s Q := by
  have hB := h.cell
  have hlen := lvsF_len h.1
  have hr : room = 140737488355328 := rfl
  unfold singleM at hm
  simp only [ok_ite, ok_bnd, ok_some] at hm
  obtain ⟨m1, m2⟩ := hm
  refine FN.of (draw_ok mix) is_parse_stack_single rfl (Nat.le_of_ble_eq_true rfl) ?_
  rw [ir_parse_stack_single, res_parse_stack_single]
  unfold stkC at hB
  unfold tA
  simp -implicitDefEqProofs only [go_sem, start, startE, resVs, resV, resC, allV, retK, Nat.reduceBEq, Nat.reduceAdd, Nat.reduceMul, Nat.reduceLeDiff, Nat.reduceEqDiff, Nat.reduceBNe, Nat.ble_eq, UInt8.reduceToNat, UInt32.reduceToNat]
  refine top_fn h (by omega) (fun hst => ?_) (fun id ids' v vs hids hst => ?_)
  · have htw : topWants p.st = false := by rw [hst]; rfl
    rw [htw] at m1 m2
    simp -implicitDefEqProofs only [go_sem, start, startE, resVs, resV, resC, allV, retK, Nat.reduceBEq, Nat.reduceAdd, Nat.reduceMul, Nat.reduceLeDiff, Nat.reduceEqDiff, Nat.reduceBNe, Nat.ble_eq, UInt8.reduceToNat, UInt32.reduceToNat, hB, Bool.true_eq_false, Bool.false_eq_true, false_implies, true_implies, true_and, and_true]
    refine ⟨fun hk => ?_, fun hk => ?_⟩
    · obtain ⟨r, hr1, hr2⟩ := (m2 rfl).1 hk
      refine FE.app (parse_word_fe hr1) ?_
      simp -implicitDefEqProofs only [go_sem, start, startE, resVs, resV, resC, allV, retK, Nat.reduceBEq, Nat.reduceAdd, Nat.reduceMul, Nat.reduceLeDiff, Nat.reduceEqDiff, Nat.reduceBNe, Nat.ble_eq, UInt8.reduceToNat, UInt32.reduceToNat]
      exact hr2 s h
    · obtain ⟨w, hw1, hw2⟩ := (m2 rfl).2 hk
      refine FE.app (parse_whole_fe hw1) ?_
      simp -implicitDefEqProofs only [go_sem, start, startE, resVs, resV, resC, allV, retK, Nat.reduceBEq, Nat.reduceAdd, Nat.reduceMul, Nat.reduceLeDiff, Nat.reduceEqDiff, Nat.reduceBNe, Nat.ble_eq, UInt8.reduceToNat, UInt32.reduceToNat]
      refine ⟨fun hw => ?_, fun hw => ?_⟩
      · obtain ⟨r, hr1, hr2⟩ := hw2.1 hw
        refine ref_at h hr1 fun s' hs' => ?_
        unfold vA
        simp -implicitDefEqProofs only [go_sem, start, startE, resVs, resV, resC, allV, retK, Nat.reduceBEq, Nat.reduceAdd, Nat.reduceMul, Nat.reduceLeDiff, Nat.reduceEqDiff, Nat.reduceBNe, Nat.ble_eq, UInt8.reduceToNat, UInt32.reduceToNat]
        exact hr2 s' hs'
      · exact hw2.2 hw s h
  · subst hids
    have hlv := h.lv hst
    simp -implicitDefEqProofs only [go_sem, start, startE, resVs, resV, resC, allV, retK, Nat.reduceBEq, Nat.reduceAdd, Nat.reduceMul, Nat.reduceLeDiff, Nat.reduceEqDiff, Nat.reduceBNe, Nat.ble_eq, UInt8.reduceToNat, UInt32.reduceToNat, hB]
    refine ⟨fun _ => wants_fn hlv ?_, fun hx => by cases hx⟩
    have htw : (v.dict_ && ((v.l_.length : Int).tmod 2 == 0)) = topWants p.st := by rw [hst]; rfl
    rw [htw]
    cases hw : topWants p.st <;> rw [hw] at m1 m2
    all_goals simp -implicitDefEqProofs only [go_sem, start, startE, resVs, resV, resC, allV, retK, Nat.reduceBEq, Nat.reduceAdd, Nat.reduceMul, Nat.reduceLeDiff, Nat.reduceEqDiff, Nat.reduceBNe, Nat.ble_eq, UInt8.reduceToNat, UInt32.reduceToNat, hB, Bool.true_eq_false, Bool.false_eq_true, false_implies, true_implies, true_and, and_true]
    · refine ⟨fun hk => ?_, fun hk => ?_⟩
      · obtain ⟨r, hr1, hr2⟩ := (m2 rfl).1 hk
        refine FE.app (parse_word_fe hr1) ?_
        simp -implicitDefEqProofs only [go_sem, start, startE, resVs, resV, resC, allV, retK, Nat.reduceBEq, Nat.reduceAdd, Nat.reduceMul, Nat.reduceLeDiff, Nat.reduceEqDiff, Nat.reduceBNe, Nat.ble_eq, UInt8.reduceToNat, UInt32.reduceToNat]
        exact hr2 s h
      · obtain ⟨w, hw1, hw2⟩ := (m2 rfl).2 hk
        refine FE.app (parse_whole_fe hw1) ?_
        simp -implicitDefEqProofs only [go_sem, start, startE, resVs, resV, resC, allV, retK, Nat.reduceBEq, Nat.reduceAdd, Nat.reduceMul, Nat.reduceLeDiff, Nat.reduceEqDiff, Nat.reduceBNe, Nat.ble_eq, UInt8.reduceToNat, UInt32.reduceToNat]
        refine ⟨fun hw => ?_, fun hw => ?_⟩
        · obtain ⟨r, hr1, hr2⟩ := hw2.1 hw
          refine ref_at h hr1 fun s' hs' => ?_
          unfold vA
          simp -implicitDefEqProofs only [go_sem, start, startE, resVs, resV, resC, allV, retK, Nat.reduceBEq, Nat.reduceAdd, Nat.reduceMul, Nat.reduceLeDiff, Nat.reduceEqDiff, Nat.reduceBNe, Nat.ble_eq, UInt8.reduceToNat, UInt32.reduceToNat]
          exact hr2 s' hs'
        · exact hw2.2 hw s h
    · refine ⟨fun hx => m1 hx s h, fun hx => ?_⟩
      refine ⟨fun hk => ?_, fun hk => ?_⟩
      · obtain ⟨r, hr1, hr2⟩ := (m2 hx).1 hk
        refine FE.app (parse_word_fe hr1) ?_
        simp -implicitDefEqProofs only [go_sem, start, startE, resVs, resV, resC, allV, retK, Nat.reduceBEq, Nat.reduceAdd, Nat.reduceMul, Nat.reduceLeDiff, Nat.reduceEqDiff, Nat.reduceBNe, Nat.ble_eq, UInt8.reduceToNat, UInt32.reduceToNat]
        exact hr2 s h
      · obtain ⟨w, hw1, hw2⟩ := (m2 hx).2 hk
        refine FE.app (parse_whole_fe hw1) ?_
        simp -implicitDefEqProofs only [go_sem, start, startE, resVs, resV, resC, allV, retK, Nat.reduceBEq, Nat.reduceAdd, Nat.reduceMul, Nat.reduceLeDiff, Nat.reduceEqDiff, Nat.reduceBNe, Nat.ble_eq, UInt8.reduceToNat, UInt32.reduceToNat]
        refine ⟨fun hw => ?_, fun hw => ?_⟩
        · obtain ⟨r, hr1, hr2⟩ := hw2.1 hw
          refine ref_at h hr1 fun s' hs' => ?_
          unfold vA
          simp -implicitDefEqProofs only [go_sem, start, startE, resVs, resV, resC, allV, retK, Nat.reduceBEq, Nat.reduceAdd, Nat.reduceMul, Nat.reduceLeDiff, Nat.reduceEqDiff, Nat.reduceBNe, Nat.ble_eq, UInt8.reduceToNat, UInt32.reduceToNat]
          exact hr2 s' hs'
        · exact hw2.2 hw s h
def endM (pf : List api_Value → Option (List api_Value × Int)) (p : PS) (dict : Bool) : Option (api_Value × Int × PS) :=
 bif endBad p.st dict then some (zV, 11, p) else
 match p.st with
 | [] => none
 | v :: vs => bif dict then bnd (pf v.l_) fun r => bif r.2 != 0 then some (zV, r.2, p) else some (⟨7, 0, ⟨[]⟩, r.1⟩, 0, { p with st := vs })
  else some (⟨6, 0, ⟨[]⟩, v.l_⟩, 0, { p with st := vs })
def beginM (p : PS) (dict : Bool) : Int × PS :=
 bif topWants p.st then (11, p) else bif decide (64 ≤ p.st.length) then (15, p) else (0, { p with st := ⟨dict, []⟩ :: p.st })
def StQ (s0 : Store) (B : Nat) (e : Int) (p : PS) (K : Store → Prop) : Prop :=
 (e ≠ 0 → ∀ s', Sub s0 s' → K s') ∧ (e = 0 → ∀ s' rr' ids', StI s0 s' B p rr' ids' → K s')
theorem StQ.at {s0 s : Store} {B : Nat} {e : Int} {p : PS} {K : Store → Prop} {rr : RowP} {ids : List (Nat × RowP)} (q : StQ s0 B e p K) (h : StI s0 s B p rr ids) : K s := by
  by_cases he : e = 0
  · exact q.2 he _ _ _ h
  · exact q.1 he _ h.2.2.1
theorem StQ.mono {s0 : Store} {B : Nat} {e : Int} {p : PS} {K K' : Store → Prop} (q : StQ s0 B e p K) (h : ∀ s', K s' → K' s') : StQ s0 B e p K' := ⟨fun he s' hs => h _ (q.1 he s' hs), fun he s' rr' ids' hs => h _ (q.2 he s' rr' ids' hs)⟩
theorem end_M {pf : List api_Value → Option (List api_Value × Int)} (hpf : PairsOK pf) {s0 s : Store} {B : Nat} {p : PS} {rr : RowP} {ids : List (Nat × RowP)} (h : StI s0 s B p rr ids) (hroom : p.st.length ≤ 64) {dict : Bool} {Q : List AV → Store → Prop}
    (hm : ok (endM pf p dict) fun r => StQ s0 B r.2.1 r.2.2 (Q [vA r.1, .int .i64 r.2.1])) : FN Go.Proofs.Tryz.prog 127 [.ref B 0, .bool dict] s Q := by
  unfold endM at hm
  refine end_fn hpf h hroom (fun hb => ?_) (fun v vs hst hd hb s' rr' ids' hs' => ?_) (fun v vs hst hd hb => ?_)
  · rw [hb, cond_true, ok_some] at hm
    exact hm.at h
  · rw [hb, cond_false, hst] at hm
    subst hd
    simp only [cond_false, ok_some] at hm
    exact hm.at hs'
  · rw [hb, cond_false, hst] at hm
    subst hd
    simp only [cond_true, ok_bnd] at hm
    obtain ⟨r, hr, hm⟩ := hm
    refine ⟨r, hr, fun he s' hs' => ?_, fun he s' rr' ids' hs' => ?_⟩
    · rw [show (r.2 != 0) = true by simpa using he, cond_true, ok_some] at hm
      exact hm.1 he s' hs'
    · rw [show (r.2 != 0) = false by simpa using he, cond_false, ok_some] at hm
      exact hm.2 rfl s' rr' ids' hs'
theorem begin_M {s0 s : Store} {B : Nat} {p : PS} {rr : RowP} {ids : List (Nat × RowP)} (h : StI s0 s B p rr ids) (hroom : p.st.length ≤ 64) {dict : Bool} {Q : List AV → Store → Prop}
    (hm : StQ s0 B (beginM p dict).1 (beginM p dict).2 (Q [.int .i64 (beginM p dict).1])) : FN Go.Proofs.Tryz.prog 126 [.ref B 0, .bool dict] s Q := by
  unfold beginM at hm
  refine begin_fn h hroom (fun hw => ?_) (fun hw hl => ?_) (fun hw hl s' rr' ids' hs' => ?_)
  · rw [hw, cond_true] at hm
    exact hm.at h
  · rw [hw, cond_false, decide_eq_true hl, cond_true] at hm
    exact hm.at h
  · rw [hw, cond_false, decide_eq_false (by omega), cond_false] at hm
    exact hm.at hs'
def stepM (pf : List api_Value → Option (List api_Value × Int)) (p : PS) (t : lex_Token) : Option (api_Value × Bool × Int × PS) :=
 bif t.Kind == 0 then some (zV, false, 10, p)
 else bif t.Kind == 2 || t.Kind == 4 then some (zV, false, (beginM p (t.Kind == 4)).1, (beginM p (t.Kind == 4)).2)
 else bif t.Kind == 3 || t.Kind == 5 then bnd (endM pf p (t.Kind == 5)) fun r => some (r.1, r.2.1 == 0, r.2.1, r.2.2)
 else bnd (singleM p t) fun r => bif r.2.1 == 0 && decide (64 ≤ p.st.length) then some (r.1, false, 15, { p with at_ := r.2.2 }) else some (r.1, r.2.1 == 0, r.2.1, { p with at_ := r.2.2 })
theorem step_fn {pf : List api_Value → Option (List api_Value × Int)} (hpf : PairsOK pf) {s0 s : Store} {B : Nat} {p : PS} {rr : RowP} {ids : List (Nat × RowP)} (h : StI s0 s B p rr ids) (hroom : p.st.length ≤ 64) {t : lex_Token} {Q : List AV → Store → Prop}
    (hm : ok (stepM pf p t) fun r => StQ s0 B r.2.2.1 r.2.2.2 (Q [vA r.1, .bool r.2.1, .int .i64 r.2.2.1])) : FN Go.Proofs.Tryz.prog 96 [.ref B 0, tA t] s Q := by
  have hr : room = 140737488355328 := rfl
  unfold stepM at hm
  refine FN.of (draw_ok mix) is_parse_stack_step rfl (Nat.le_of_ble_eq_true rfl) ?_
  rw [ir_parse_stack_step, res_parse_stack_step]
  unfold tA
  cases h0 : (t.Kind == 0) with
  | true =>
    rw [h0, cond_true, ok_some] at hm
    simp -implicitDefEqProofs only [go_sem, start, startE, resVs, resV, resC, allV, retK, Nat.reduceBEq, Nat.reduceAdd, Nat.reduceMul, Nat.reduceLeDiff, Nat.reduceEqDiff, Nat.reduceBNe, Nat.ble_eq, UInt8.reduceToNat, UInt32.reduceToNat, h0, Bool.true_eq_false, Bool.false_eq_true, false_implies, true_implies, true_and, and_true]
    exact hm.at h
  | false =>
  rw [h0, cond_false] at hm
  cases h2 : (t.Kind == 2) with
  | true =>
    have h4 : (t.Kind == 4) = false := by have := eq_of_beq h2; rw [this]; rfl
    rw [h2, h4, Bool.true_or, cond_true, ok_some] at hm
    simp -implicitDefEqProofs only [go_sem, start, startE, resVs, resV, resC, allV, retK, Nat.reduceBEq, Nat.reduceAdd, Nat.reduceMul, Nat.reduceLeDiff, Nat.reduceEqDiff, Nat.reduceBNe, Nat.ble_eq, UInt8.reduceToNat, UInt32.reduceToNat, h0, h2, h4, Bool.true_eq_false, Bool.false_eq_true, false_implies, true_implies, true_and, and_true, Bool.true_or, Bool.or_true, Bool.or_false]
    refine begin_M h hroom (hm.mono fun s' hq => ?_)
    simp -implicitDefEqProofs only [go_sem, start, startE, resVs, resV, resC, allV, retK, Nat.reduceBEq, Nat.reduceAdd, Nat.reduceMul, Nat.reduceLeDiff, Nat.reduceEqDiff, Nat.reduceBNe, Nat.ble_eq, UInt8.reduceToNat, UInt32.reduceToNat]
    repeat' (first | ((with_reducible refine b_to ?_ ?_); exact rfl) | ((with_reducible refine n_to ?_ ?_); exact rfl) | simp -implicitDefEqProofs only [go_sem, start, startE, resVs, resV, resC, allV, retK, Nat.reduceBEq, Nat.reduceAdd, Nat.reduceMul, Nat.reduceLeDiff, Nat.reduceEqDiff, Nat.reduceBNe, Nat.ble_eq, UInt8.reduceToNat, UInt32.reduceToNat])
    exact hq
  | false =>
  cases h4 : (t.Kind == 4) with
  | true =>
    rw [h2, h4, Bool.or_true, cond_true, ok_some] at hm
    simp -implicitDefEqProofs only [go_sem, start, startE, resVs, resV, resC, allV, retK, Nat.reduceBEq, Nat.reduceAdd, Nat.reduceMul, Nat.reduceLeDiff, Nat.reduceEqDiff, Nat.reduceBNe, Nat.ble_eq, UInt8.reduceToNat, UInt32.reduceToNat, h0, h2, h4, Bool.true_eq_false, Bool.false_eq_true, false_implies, true_implies, true_and, and_true, Bool.true_or, Bool.or_true, Bool.or_false]
    refine begin_M h hroom (hm.mono fun s' hq => ?_)
    simp -implicitDefEqProofs only [go_sem, start, startE, resVs, resV, resC, allV, retK, Nat.reduceBEq, Nat.reduceAdd, Nat.reduceMul, Nat.reduceLeDiff, Nat.reduceEqDiff, Nat.reduceBNe, Nat.ble_eq, UInt8.reduceToNat, UInt32.reduceToNat]
    repeat' (first | ((with_reducible refine b_to ?_ ?_); exact rfl) | ((with_reducible refine n_to ?_ ?_); exact rfl) | simp -implicitDefEqProofs only [go_sem, start, startE, resVs, resV, resC, allV, retK, Nat.reduceBEq, Nat.reduceAdd, Nat.reduceMul, Nat.reduceLeDiff, Nat.reduceEqDiff, Nat.reduceBNe, Nat.ble_eq, UInt8.reduceToNat, UInt32.reduceToNat])
    exact hq
  | false =>
  rw [h2, h4, Bool.or_false, cond_false] at hm
  cases h3 : (t.Kind == 3) with
  | true =>
    have h5 : (t.Kind == 5) = false := by have := eq_of_beq h3; rw [this]; rfl
    rw [h3, h5, Bool.true_or, cond_true, ok_bnd] at hm
    obtain ⟨r, hr1, hm⟩ := hm
    rw [ok_some] at hm
    simp -implicitDefEqProofs only [go_sem, start, startE, resVs, resV, resC, allV, retK, Nat.reduceBEq, Nat.reduceAdd, Nat.reduceMul, Nat.reduceLeDiff, Nat.reduceEqDiff, Nat.reduceBNe, Nat.ble_eq, UInt8.reduceToNat, UInt32.reduceToNat, h0, h2, h4, h3, h5, Bool.true_eq_false, Bool.false_eq_true, false_implies, true_implies, true_and, and_true, Bool.true_or, Bool.or_true, Bool.or_false]
    refine end_M hpf h hroom ⟨r, hr1, hm.mono fun s' hq => ?_⟩
    unfold vA
    simp -implicitDefEqProofs only [go_sem, start, startE, resVs, resV, resC, allV, retK, Nat.reduceBEq, Nat.reduceAdd, Nat.reduceMul, Nat.reduceLeDiff, Nat.reduceEqDiff, Nat.reduceBNe, Nat.ble_eq, UInt8.reduceToNat, UInt32.reduceToNat]
    exact hq
  | false =>
  cases h5 : (t.Kind == 5) with
  | true =>
    rw [h3, h5, Bool.or_true, cond_true, ok_bnd] at hm
    obtain ⟨r, hr1, hm⟩ := hm
    rw [ok_some] at hm
    simp -implicitDefEqProofs only [go_sem, start, startE, resVs, resV, resC, allV, retK, Nat.reduceBEq, Nat.reduceAdd, Nat.reduceMul, Nat.reduceLeDiff, Nat.reduceEqDiff, Nat.reduceBNe, Nat.ble_eq, UInt8.reduceToNat, UInt32.reduceToNat, h0, h2, h4, h3, h5, Bool.true_eq_false, Bool.false_eq_true, false_implies, true_implies, true_and, and_true, Bool.true_or, Bool.or_true, Bool.or_false]
    refine end_M hpf h hroom ⟨r, hr1, hm.mono fun s' hq => ?_⟩
    unfold vA
    simp -implicitDefEqProofs only [go_sem, start, startE, resVs, resV, resC, allV, retK, Nat.reduceBEq, Nat.reduceAdd, Nat.reduceMul, Nat.reduceLeDiff, Nat.reduceEqDiff, Nat.reduceBNe, Nat.ble_eq, UInt8.reduceToNat, UInt32.reduceToNat]
    exact hq
  | false =>
  rw [h3, h5, Bool.or_false, cond_false, ok_bnd] at hm
  obtain ⟨r, hr1, hm⟩ := hm
  simp -implicitDefEqProofs only [go_sem, start, startE, resVs, resV, resC, allV, retK, Nat.reduceBEq, Nat.reduceAdd, Nat.reduceMul, Nat.reduceLeDiff, Nat.reduceEqDiff, Nat.reduceBNe, Nat.ble_eq, UInt8.reduceToNat, UInt32.reduceToNat, h0, h2, h4, h3, h5, Bool.true_eq_false, Bool.false_eq_true, false_implies, true_implies, true_and, and_true, Bool.true_or, Bool.or_true, Bool.or_false]
  refine single_fn h hroom ⟨r, hr1, fun s' hs' => ?_⟩
  have hB := hs'.cell
  unfold stkC at hB
  unfold vA
  simp -implicitDefEqProofs only [go_sem, start, startE, resVs, resV, resC, allV, retK, Nat.reduceBEq, Nat.reduceAdd, Nat.reduceMul, Nat.reduceLeDiff, Nat.reduceEqDiff, Nat.reduceBNe, Nat.ble_eq, UInt8.reduceToNat, UInt32.reduceToNat, hB]
  cases he : (r.2.1 == 0) with
  | false =>
    rw [he, Bool.false_and, cond_false, ok_some] at hm
    simp -implicitDefEqProofs only [go_sem, start, startE, resVs, resV, resC, allV, retK, Nat.reduceBEq, Nat.reduceAdd, Nat.reduceMul, Nat.reduceLeDiff, Nat.reduceEqDiff, Nat.reduceBNe, Nat.ble_eq, UInt8.reduceToNat, UInt32.reduceToNat, hB, he, Bool.true_eq_false, Bool.false_eq_true, false_implies, true_implies, true_and, and_true, Bool.true_or, Bool.or_true, Bool.or_false]
    exact hm.at hs'
  | true =>
    rw [he, Bool.true_and] at hm
    simp -implicitDefEqProofs only [go_sem, start, startE, resVs, resV, resC, allV, retK, Nat.reduceBEq, Nat.reduceAdd, Nat.reduceMul, Nat.reduceLeDiff, Nat.reduceEqDiff, Nat.reduceBNe, Nat.ble_eq, UInt8.reduceToNat, UInt32.reduceToNat, hB, he, Bool.true_eq_false, Bool.false_eq_true, false_implies, true_implies, true_and, and_true, Bool.true_or, Bool.or_true, Bool.or_false]
    refine ⟨fun hl => ?_, fun hl => ?_⟩
    · rw [show decide (64 ≤ p.st.length) = true by have := of_decide_eq_true hl; exact decide_eq_true (by omega), cond_true, ok_some] at hm
      exact hm.at hs'
    · rw [show decide (64 ≤ p.st.length) = false by have := of_decide_eq_false hl; exact decide_eq_false (by omega), cond_false, ok_some] at hm
      exact hm.at hs'
end Go.AB
end

section
set_option maxRecDepth 4000
namespace Go.AB
open Go
attribute [-go_sem] Nat.add_zero ge_0 part_zero xwp_cons xwpK_eq xalt_cons xalt_nil
def ir_parse_Value : IC :=
 (.seq (.reg none [i1 6 (.allocL [.int .i64 0, .int .i64 0, .str [], .sl true 4 0 []]),
 i1 7 (.mov false (.c (.int .i64 0))),
 i1 8 (.mov false (.c (.int .i64 0)))] [0, 1, 2, 6])
 (.scopeJ 0 [(6, false), (9, false)] (.reg none [mv 15 0,
 mv 16 1,
 mv 17 2,
 i1 18 (.build [.sl true 1 0 [], .int .i64 0, .bool false, .arr 0 0 0 0] [(0, 1, (.t 15)), (1, 1, (.t 16)), (2, 1, (.t 17))]),
 i1 19 (.boxS 4 (.t 18)),
 mv 9 19] [6, 9])
 .skip
 .skip
 (.seq (.reg none [mv 21 9,
 i1 22 (.call 95 [(.t 21)]),
 i1 20 (.movT (.t 22)),
 i1 23 (.extract (.t 20) 0),
 i1 24 (.extract (.t 20) 1),
 i1 10 (.allocL [.int .i64 0, .int .i64 0, .int .i64 0, .int .i64 0, .int .i64 0, .str [], .sl true 4 0 [], .str []]),
 i0 (.store 8 (.t 10) (.t 23)),
 mv 11 24] [6, 9, 10, 11])
 (.seq (.seq (.reg none [mv 25 11,
 i1 26 (.bin .neq (.t 25) (.c (.int .i64 0)))] [6, 9, 10, 11, 26])
 (.cond (.t 26) (.seq (.reg none [i1 27 (.build [.int .i64 0, .int .i64 0, .str [], .sl true 4 0 []] []),
 mv 28 11,
 i0 (.store 4 (.t 6) (.t 27)),
 i1 7 (.mov false (.c (.int .i64 0))),
 mv 8 28] [6, 7, 8])
 .ret)
 .skip))
 (.seq (.reg none [mv 30 9,
 i1 31 (.load 8 true (.t 10)),
 i1 32 (.call 96 [(.t 30), (.t 31)]),
 i1 29 (.movT (.t 32)),
 i1 33 (.extract (.t 29) 0),
 i1 34 (.extract (.t 29) 1),
 i1 35 (.extract (.t 29) 2),
 i1 12 (.allocL [.int .i64 0, .int .i64 0, .str [], .sl true 4 0 []]),
 i0 (.store 4 (.t 12) (.t 33)),
 mv 13 34,
 mv 11 35] [6, 9, 11, 12, 13])
 (.seq (.seq (.reg none [mv 36 11,
 i1 37 (.bin .neq (.t 36) (.c (.int .i64 0)))] [6, 9, 11, 12, 13, 37])
 (.cond (.t 37) (.seq (.reg none [i1 38 (.build [.int .i64 0, .int .i64 0, .str [], .sl true 4 0 []] []),
 mv 39 11,
 i0 (.store 4 (.t 6) (.t 38)),
 i1 7 (.mov false (.c (.int .i64 0))),
 mv 8 39] [6, 7, 8])
 .ret)
 .skip))
 (.seq (.seq (.reg none [mv 40 13,
 i1 41 (.un .not (.t 40))] [6, 9, 12, 41])
 (.cond (.t 41) (.goto 0)
 .skip))
 (.seq (.seq (.reg none [mv 42 9,
 i1 43 (.call 97 [(.t 42)]),
 mv 14 43] [6, 9, 12, 14])
 (.seq (.reg none [mv 44 14,
 i1 45 (.eqP true (.t 44) (.c (.nilp)))] [6, 9, 12, 14, 45])
 (.cond (.t 45) (.seq (.regX [[false, false, false, false, false, false, false, false, false, false, false, false, false], [true, false, false, false, false, false, false, false, false, false, false, false, false], [false, true, false, false, false, false, false, false, false, false, false, false, false], [false, false, true, false, false, false, false, false, false, false, false, false, false], [false, false, false, false, false, false, false, false, false, false, false, false, false], [false, false, false, true, false, false, false, false, false, false, false, false, false], [false, false, false, false, false, false, false, false, false, false, false, false, false], [true, true, true, true, true, true, true, false, false, false, false, false, false], [true, true, true, true, true, true, true, true, false, false, false, false, false], [true, true, true, true, true, true, true, true, true, false, false, false, false], [true, true, true, true, true, true, true, true, false, false, false, false, false], [true, true, true, true, true, true, true, true, false, false, true, false, false], [true, true, true, true, true, true, true, true, false, false, false, true, false]] [mv 46 14,
 i1 47 (.nilCheck (.t 46)),
 i1 48 (.fieldAddr 1 (.t 47)),
 i1 49 (.load 1 false (.t 48)),
 i1 50 (.load 4 true (.t 12)),
 i1 51 (.len 0 (.t 49)),
 i1 52 (.buildSl 4 1 [.int .i64 0, .int .i64 0, .str [], .sl false 4 0 []] [(0, 4, (.c (.agg [.int .i64 0, .int .i64 0, .str [], .sl true 4 0 []])))]),
 i1 53 (.appendA 4 56 [.int .i64 0, .int .i64 0, .str [], .sl false 4 0 []] (.t 49) (.t 52)),
 i1 54 (.indexAddr [.int .i64 0, .int .i64 0, .str [], .sl false 4 0 []] (.t 53) (.t 51)),
 i0 (.store 4 (.t 54) (.t 50)),
 i1 55 (.nilCheck (.t 46)),
 i1 56 (.fieldAddr 1 (.t 55)),
 i0 (.store 1 (.t 56) (.t 53))] [6, 9])
 (.goto 0))
 .skip)))
 (.seq (.regT [6] 8 [i1 57 (.load 4 true (.t 12)),
 mv 58 9,
 i1 59 (.nilCheck (.t 58)),
 i1 60 (.fieldAddr 1 (.t 59)),
 i1 61 (.load 1 false (.t 60)),
 i0 (.store 4 (.t 6) (.t 57)),
 mv 7 61,
 i1 8 (.mov false (.c (.int .i64 0)))] [6, 7, 8])
 .ret)))))))))
def res_parse_Value : List IRes := [⟨6, false, some (4, true)⟩, ⟨7, true, none⟩, ⟨8, true, none⟩]
theorem is_parse_Value : fnIs Go.Proofs.Tryz.prog 57 62 res_parse_Value ir_parse_Value = true := by kernel_rfl
theorem jump_toR {P : Program} {S O : Type} {body : S → Option (S ⊕ O)} {s0 : S} {kf : O → Prop} {live : List (Nat × Bool)} {l : Nat} {r : IC} {Q : Exit → St → Prop} {σ : St} (R : S → St → Prop)
    (h0 : R s0 σ)
    (hb : ∀ (J : St → Prop) (s : S) (τ : St), R s τ → ok (body s) (caseS (fun t => ∀ τ', R t τ' → J τ') kf) → cwp P r (jmpK l live J Q) τ) : ok (iter body s0) kf → jlp P l live r Q σ := by
  intro h
  have hmin : ∀ τ, (∃ m s, R s τ ∧ ok (iterN body m s) kf) → ∃ m, (∃ s, R s τ ∧ ok (iterN body m s) kf) ∧ ∀ k, k < m → ¬ ∃ s, R s τ ∧ ok (iterN body k s) kf := by
    rintro τ ⟨m, s, h⟩
    induction m using Nat.strongRecOn generalizing s with
    | _ m ih =>
      by_cases hk : ∃ k, k < m ∧ ∃ s, R s τ ∧ ok (iterN body k s) kf
      · obtain ⟨k, hk, s', h'⟩ := hk
        exact ih k hk s' h'
      · exact ⟨m, ⟨s, h⟩, fun k hk' hs => hk ⟨k, hk', hs⟩⟩
  have hμ : ∃ μ : St → Nat, ∀ τ, (∃ m s, R s τ ∧ ok (iterN body m s) kf) → (∃ s, R s τ ∧ ok (iterN body (μ τ) s) kf) ∧ ∀ k, k < μ τ → ¬ ∃ s, R s τ ∧ ok (iterN body k s) kf :=
    ⟨fun τ => Classical.epsilon fun m => (∃ s, R s τ ∧ ok (iterN body m s) kf) ∧ ∀ k, k < m → ¬ ∃ s, R s τ ∧ ok (iterN body k s) kf, fun τ hτ => Classical.epsilon_spec (hmin τ hτ)⟩
  obtain ⟨μ, hμ⟩ := hμ
  refine ⟨fun τ => ∃ m s, R s τ ∧ ok (iterN body m s) kf, μ, ⟨_, s0, h0, h⟩, ?_⟩
  intro τ hτ
  obtain ⟨⟨s, e, hs⟩, _⟩ := hμ τ hτ
  generalize hm : μ τ = m at hs
  cases m with
  | zero => exact (iterN_zero hs).elim
  | succ m =>
    obtain ⟨x, hx, k⟩ := iterN_succ hs
    refine hb _ s τ e ⟨x, hx, ?_⟩
    cases x with
    | inr o => exact k
    | inl t =>
      intro τ' ht
      refine ⟨⟨m, t, ht, k⟩, ?_⟩
      have h2 := (hμ τ' ⟨m, t, ht, k⟩).2
      rcases Nat.lt_or_ge m (μ τ') with hlt | hge
      · exact (h2 m hlt ⟨t, ht, k⟩).elim
      · omega
theorem next_at {s0 s : Store} {B : Nat} {p : PS} {rr : RowP} {ids : List (Nat × RowP)} (h : StI s0 s B p rr ids) {r : lex_Token × Int} (hr : lex_Next p.b p.at_ p.last = some r) {Q : List AV → Store → Prop}
  (h0 : (r.2 != 0) = false → ∀ s', StI s0 s' B { p with at_ := r.1.To } rr ids → Q [tA r.1, .int .i64 r.2] s') (h1 : (r.2 != 0) = true → StI s0 s B p rr ids → Q [tA r.1, .int .i64 r.2] s) : FN Go.Proofs.Tryz.prog 95 [.ref B 0] s Q := by
 refine parse_stack_next_fn (s_0 := ⟨p.b, p.at_, p.last, rowA rr p.st.length⟩) h.cell ?_
 unfold parse_stack_next
 rw [ok_bnd]
 refine ⟨r, hr, ?_⟩
 cases he : (r.2 == 0) with
 | true =>
  simp only [he, if_true]
  exact ⟨_, rfl, h0 (by unfold bne; rw [he]; rfl) _ (h.place _)⟩
 | false =>
  simp only [he, Bool.false_eq_true, if_false]
  refine ⟨_, rfl, ?_⟩
  have : s.set B (.cells (stkC p rr)) = s := set_eq' h.cell
  show Q _ (s.set B (.cells (stkC p rr)))
  rw [this]
  exact h1 (by unfold bne; rw [he]; rfl) h
theorem x_to3 {P : Program} {deps : List (List Bool)} {ops f : List IOper} {live : List Nat} {Q : Exit → St → Prop} {d : List Bool} {σ : St} (C : St → Prop)
  (h1 : ∀ K : St → Prop, (∀ τ : St, C (τ.keep live) → K τ) → xwp P deps ops K f d σ) (h2 : ∀ φ, C φ → Q .normal φ) : xwp P deps ops (regK live Q) f d σ := h1 _ fun τ h => h2 _ h
theorem val_app {σ : St} {d : Option Nat} {K : St → Prop} {s s2 : Store} {B : Nat} {p2 : PS} {rr2 : RowP} {id : Nat × RowP} {ids' : List (Nat × RowP)} {v : parse_level} {vs : List parse_level} (hσ : σ.s = s2) (h2 : StI s s2 B p2 rr2 (id :: ids')) (hst : p2.st = v :: vs) (hroom : (v.l_.length + 1) * 56 ≤ room) (x : api_Value)
    (hK : ∀ S3 rb cap sp, S3 rb = some (.cells (flat (v.l_ ++ [zV]) ++ sp)) → S3 id.1 = some (.cells [.bool v.dict_, rowA id.2 v.l_.length]) → rb ≠ id.1 →
      StI s ((S3.set rb (.cells (flat (v.l_ ++ [x]) ++ sp))).set id.1 (.cells [.bool v.dict_, .arr rb 0 (v.l_.length + 1) cap])) B { p2 with st := ⟨v.dict_, v.l_ ++ [x]⟩ :: vs } rr2 ((id.1, some (rb, cap, sp)) :: ids') →
      K ({ σ with s := S3 }.put d (.arr rb 0 (v.l_.length + 1) cap))) :
    appendAW 4 56 [.int .i64 0, .int .i64 0, .str [], .sl false 4 0 []] σ d K (.arr (rowB id.2) 0 v.l_.length (rowC id.2)) (srcV σ.s 4 (.sl true 4 1 [.int .i64 0, .int .i64 0, .str [], .sl false 4 0 []])) := by
  obtain ⟨F1, F2, H⟩ := h2
  rw [hst] at F1 H
  have H1 : Holds s s2 (rowH id.2 v.l_ ++ ((id.1, lvC id.2 v) :: ((B, .cells (stkC p2 rr2)) :: (rowH rr2 (refs (id :: ids').reverse) ++ lvsH ids' vs)))) := by
    refine H.perm ?_
    refine (List.perm_middle (l₁ := (B, SO.cells (stkC p2 rr2)) :: rowH rr2 (refs (id :: ids').reverse))).trans ?_
    refine ((List.perm_append_comm_assoc ((B, SO.cells (stkC p2 rr2)) :: rowH rr2 (refs (id :: ids').reverse)) (rowH id.2 v.l_) (lvsH ids' vs)).cons _).trans ?_
    exact List.perm_middle.symm
  obtain ⟨sb, e, okr, Hb⟩ := H1.row F1.1
  rw [srcV_sl]
  refine app_row (z := zV) (v := zV) (hσ.trans e) okr rfl hroom fun s' r' hs' ok' => ?_
  obtain ⟨rb, cap, sp, rfl⟩ := row_at ok' (by simp)
  obtain ⟨H3, f3⟩ := (Hb.sub hs').unrow ok'
  have hne : rb ≠ id.1 := by
    have := H3.2.2
    intro he
    rw [he] at this
    simp [rowH] at this
  refine hK _ rb cap sp H3.get (H3.mem (by simp [rowH, lvC])) hne ?_
  have H4 := (Holds.set (o' := .cells (flat (v.l_ ++ [x]) ++ sp)) H3)
  have H5 := (Holds.set (o' := .cells [.bool v.dict_, .arr rb 0 (v.l_.length + 1) cap]) (H4.perm (List.Perm.swap ..)))
  have H6 := H5.perm (List.perm_append_comm_assoc [(id.1, SO.cells [.bool v.dict_, .arr rb 0 (v.l_.length + 1) cap]), (rb, .cells (flat (v.l_ ++ [x]) ++ sp))] ((B, SO.cells (stkC p2 rr2)) :: rowH rr2 (refs (id :: ids').reverse)) (lvsH ids' vs))
  have hlen : (v.l_ ++ [x]).length = v.l_.length + 1 := by simp
  have hl : lvC (some (rb, cap, sp)) ⟨v.dict_, v.l_ ++ [x]⟩ = .cells [.bool v.dict_, .arr rb 0 (v.l_.length + 1) cap] := by
    unfold lvC rowA
    simp only [hlen]
    rfl
  have hp : stkC { p2 with st := ⟨v.dict_, v.l_ ++ [x]⟩ :: vs } rr2 = stkC p2 rr2 := by
    unfold stkC
    simp only [hst, List.length_cons]
  have hrefs : refs ((id.1, (some (rb, cap, sp) : RowP)) :: ids').reverse = refs (id :: ids').reverse := by rw [refs_cons, refs_cons]
  refine ⟨⟨?_, F1.2⟩, by rw [hrefs]; exact F2, ?_⟩
  · obtain ⟨g1, g2, g3, g4⟩ := f3
    refine ⟨g1, by simpa using g2, ?_, g4⟩
    rw [List.length_append, flat_len] at g3 ⊢
    simpa using g3
  · rw [hp, hrefs]
    have : lvsH ((id.1, some (rb, cap, sp)) :: ids') (⟨v.dict_, v.l_ ++ [x]⟩ :: vs) = [(id.1, SO.cells [.bool v.dict_, .arr rb 0 (v.l_.length + 1) cap]), (rb, .cells (flat (v.l_ ++ [x]) ++ sp))] ++ lvsH ids' vs := by
      rw [← hl]; rfl
    show Holds s _ ((B, SO.cells (stkC p2 rr2)) :: (rowH rr2 _ ++ lvsH ((id.1, some (rb, cap, sp)) :: ids') (⟨v.dict_, v.l_ ++ [x]⟩ :: vs)))
    rw [this]
    exact H6
theorem val_app2 {σ : St} {d : Option Nat} {K : St → Prop} {s s2 : Store} {B : Nat} {p2 : PS} {rr2 : RowP} {id : Nat × RowP} {ids' : List (Nat × RowP)} {v : parse_level} {vs : List parse_level} (hσ : σ.s = s2) (h2 : StI s s2 B p2 rr2 (id :: ids')) (hst : p2.st = v :: vs) (hroom : (v.l_.length + 1) * 56 ≤ room) (x : api_Value)
    (hK : ∀ S3 rb cap cs, S3 rb = some (.cells cs) → S3 id.1 = some (.cells [.bool v.dict_, rowA id.2 v.l_.length]) → (∀ o, (S3.set rb o) id.1 = some (.cells [.bool v.dict_, rowA id.2 v.l_.length])) → (∀ o, (S3.set id.1 o) rb = some (.cells cs)) →
      v.l_.length * 4 + 4 ≤ cs.length →
      (∃ rr3 ids3, StI s ((S3.set rb (.cells (setAt cs (v.l_.length * 4) [.int .i64 x.Kind, .int .i64 x.N, .str x.S.b, .sl false 4 x.L.length (flat x.L)]))).set id.1 (.cells [.bool v.dict_, .arr rb 0 (v.l_.length + 1) cap])) B { p2 with st := ⟨v.dict_, v.l_ ++ [x]⟩ :: vs } rr3 ids3) →
      (∃ rr3 ids3, StI s ((S3.set id.1 (.cells [.bool v.dict_, .arr rb 0 (v.l_.length + 1) cap])).set rb (.cells (setAt cs (v.l_.length * 4) [.int .i64 x.Kind, .int .i64 x.N, .str x.S.b, .sl false 4 x.L.length (flat x.L)]))) B { p2 with st := ⟨v.dict_, v.l_ ++ [x]⟩ :: vs } rr3 ids3) →
      K ({ σ with s := S3 }.put d (.arr rb 0 (v.l_.length + 1) cap))) :
    appendAW 4 56 [.int .i64 0, .int .i64 0, .str [], .sl false 4 0 []] σ d K (.arr (rowB id.2) 0 v.l_.length (rowC id.2)) (srcV σ.s 4 (.sl true 4 1 [.int .i64 0, .int .i64 0, .str [], .sl false 4 0 []])) := by
  refine val_app hσ h2 hst hroom x fun S3 rb cap sp g1 g2 hne hfin => ?_
  have hs : setAt (flat (v.l_ ++ [zV]) ++ sp) (v.l_.length * 4) [.int .i64 x.Kind, .int .i64 x.N, .str x.S.b, .sl false 4 x.L.length (flat x.L)] = flat (v.l_ ++ [x]) ++ sp := by
    have h := row_set (v.l_ ++ [zV]) [x] sp 4 v.l_.length rfl (by simp)
    have hx : flat [x] = [.int .i64 x.Kind, .int .i64 x.N, .str x.S.b, .sl false 4 x.L.length (flat x.L)] := by
      unfold flat
      simp only [List.map_cons, List.map_nil, List.flatten_cons, List.flatten_nil, List.append_nil]
      exact cells_api_Value x
    rw [hx] at h
    rw [h]
    simp
  refine hK S3 rb cap _ g1 g2 (fun o => ?_) (fun o => ?_) ?_ ?_ ?_
  · rw [← g2]; unfold Store.set; rw [if_neg (Ne.symm hne)]
  · rw [← g1]; unfold Store.set; rw [if_neg hne]
  · rw [List.length_append, flat_len]
    have : Enc.w api_Value = 4 := rfl
    rw [this]
    simp
    omega
  · rw [hs]; exact ⟨_, _, hfin⟩
  · rw [hs, set_comm hne]; exact ⟨_, _, hfin⟩
def valueBody (pf : List api_Value → Option (List api_Value × Int)) (p : PS) : Option (PS ⊕ (api_Value × Int × Int)) :=
 need (p.st.length ≤ 64) <|
 bnd (lex_Next p.b p.at_ p.last) fun r1 =>
 bif r1.2 != 0 then some (.inr (zV, 0, r1.2)) else
 bnd (stepM pf { p with at_ := r1.1.To } r1.1) fun r =>
 bif r.2.2.1 != 0 then some (.inr (zV, 0, r.2.2.1)) else
 bif !r.2.1 then some (.inl r.2.2.2) else
 need (r.2.2.2.st.length ≤ 64) <| match r.2.2.2.st with
 | [] => some (.inr (r.1, r.2.2.2.at_, 0))
 | v :: vs => need ((v.l_.length + 1) * 56 ≤ room) <| some (.inl { r.2.2.2 with st := ⟨v.dict_, v.l_ ++ [r.1]⟩ :: vs })
def parse_ValueM (pf : List api_Value → Option (List api_Value × Int)) (b : List UInt8) (a : Int) (last : Bool) : Option (api_Value × Int × Int) := iter (valueBody pf) ⟨b, a, last, []⟩
def zL : AV := .loc [.int .i64 0, .int .i64 0, .str [], .sl true 4 0 []]
set_option maxHeartbeats 8000000 in
theorem value_fn {pf : List api_Value → Option (List api_Value × Int)} (hpf : PairsOK pf) {s : Store} {b : List UInt8} {a : Int} {last : Bool} {Q : List AV → Store → Prop}
    (hm : ok (parse_ValueM pf b a last) fun r => ∀ s', Sub s s' → Q [vA r.1, .int .i64 r.2.1, .int .i64 r.2.2] s') : FN Go.Proofs.Tryz.prog 57 [.sl false 1 b.length (flat b), .int .i64 a, .bool last] s Q := by
  have hr : room = 140737488355328 := rfl
  unfold parse_ValueM at hm
  refine FN.of (draw_ok mix) is_parse_Value rfl (Nat.le_of_ble_eq_true rfl) ?_
  rw [ir_parse_Value, res_parse_Value]
  simp -implicitDefEqProofs only [go_sem, start, startE, resVs, resV, resC, allV, retK, Nat.reduceBEq, Nat.reduceAdd, Nat.reduceMul, Nat.reduceLeDiff, Nat.reduceEqDiff, Nat.reduceBNe, Nat.ble_eq, UInt8.reduceToNat, UInt32.reduceToNat]
  intro B hB
  refine jump_toR (fun (p : PS) (τ : St) => ∃ s' rr ids, StI s s' B p rr ids ∧ τ = ⟨[(6, zL), (9, .ref B 0)], [], s'⟩) ?_ ?_ hm
  · refine ⟨_, none, [], ⟨trivial, rfl, (Holds.nil.alloc hB)⟩, rfl⟩
  · rintro J p τ ⟨s', rr, ids, h, rfl⟩ hb
    unfold valueBody at hb
    rw [ok_need] at hb
    obtain ⟨hroom, hb⟩ := hb
    unfold zL
    simp -implicitDefEqProofs only [go_sem, start, startE, resVs, resV, resC, allV, retK, Nat.reduceBEq, Nat.reduceAdd, Nat.reduceMul, Nat.reduceLeDiff, Nat.reduceEqDiff, Nat.reduceBNe, Nat.ble_eq, UInt8.reduceToNat, UInt32.reduceToNat]
    rw [ok_bnd] at hb
    obtain ⟨r1, hr1, hb⟩ := hb
    refine next_at h hr1 (fun he s1 h1 => ?_) (fun he h1 => ?_)
    rotate_left
    · rw [he, cond_true, ok_some] at hb
      unfold tA
      simp -implicitDefEqProofs only [go_sem, start, startE, resVs, resV, resC, allV, retK, Nat.reduceBEq, Nat.reduceAdd, Nat.reduceMul, Nat.reduceLeDiff, Nat.reduceEqDiff, Nat.reduceBNe, Nat.ble_eq, UInt8.reduceToNat, UInt32.reduceToNat, he, Bool.true_eq_false, Bool.false_eq_true, false_implies, true_implies, true_and, and_true]
      exact hb s' h.2.2.1
    · rw [he, cond_false, ok_bnd] at hb
      obtain ⟨r, hr2, hb⟩ := hb
      unfold tA
      simp -implicitDefEqProofs only [go_sem, start, startE, resVs, resV, resC, allV, retK, Nat.reduceBEq, Nat.reduceAdd, Nat.reduceMul, Nat.reduceLeDiff, Nat.reduceEqDiff, Nat.reduceBNe, Nat.ble_eq, UInt8.reduceToNat, UInt32.reduceToNat, he, Bool.true_eq_false, Bool.false_eq_true, false_implies, true_implies, true_and, and_true]
      refine step_fn hpf h1 hroom ⟨r, hr2, fun he2 s2 h2 => ?_, fun he2 s2 rr2 ids2 h2 => ?_⟩
      · have he3 : (r.2.2.1 != 0) = true := by simpa using he2
        rw [he3, cond_true, ok_some] at hb
        unfold vA
        simp -implicitDefEqProofs only [go_sem, start, startE, resVs, resV, resC, allV, retK, Nat.reduceBEq, Nat.reduceAdd, Nat.reduceMul, Nat.reduceLeDiff, Nat.reduceEqDiff, Nat.reduceBNe, Nat.ble_eq, UInt8.reduceToNat, UInt32.reduceToNat, he3, Bool.true_eq_false, Bool.false_eq_true, false_implies, true_implies, true_and, and_true]
        exact hb s2 h2
      · have he3 : (r.2.2.1 != 0) = false := by simpa using he2
        rw [he3, cond_false] at hb
        unfold vA
        cases hi : r.2.1 with
        | false =>
          rw [hi, Bool.not_false, cond_true, ok_some] at hb
          simp -implicitDefEqProofs only [go_sem, start, startE, resVs, resV, resC, allV, retK, Nat.reduceBEq, Nat.reduceAdd, Nat.reduceMul, Nat.reduceLeDiff, Nat.reduceEqDiff, Nat.reduceBNe, Nat.ble_eq, UInt8.reduceToNat, UInt32.reduceToNat, he3, hi, Bool.not_false, Bool.true_eq_false, Bool.false_eq_true, false_implies, true_implies, true_and, and_true]
          exact hb _ ⟨s2, rr2, ids2, h2, rfl⟩
        | true =>
          rw [hi, Bool.not_true, cond_false] at hb
          simp -implicitDefEqProofs only [go_sem, start, startE, resVs, resV, resC, allV, retK, Nat.reduceBEq, Nat.reduceAdd, Nat.reduceMul, Nat.reduceLeDiff, Nat.reduceEqDiff, Nat.reduceBNe, Nat.ble_eq, UInt8.reduceToNat, UInt32.reduceToNat, he3, hi, Bool.not_true, Bool.true_eq_false, Bool.false_eq_true, false_implies, true_implies, true_and, and_true]
          rw [ok_need] at hb
          obtain ⟨hroom2, hb⟩ := hb
          have hB2 := h2.cell
          unfold stkC at hB2
          refine top_fn h2 (by omega) (fun hst => ?_) (fun id ids' v vs hids hst => ?_)
          · rw [hst] at hb
            simp only [ok_some] at hb
            simp -implicitDefEqProofs only [go_sem, start, startE, resVs, resV, resC, allV, retK, Nat.reduceBEq, Nat.reduceAdd, Nat.reduceMul, Nat.reduceLeDiff, Nat.reduceEqDiff, Nat.reduceBNe, Nat.ble_eq, UInt8.reduceToNat, UInt32.reduceToNat, hB2, Bool.true_eq_false, Bool.false_eq_true, false_implies, true_implies, true_and, and_true]
            exact hb s2 h2.2.2.1
          · rw [hst] at hb
            simp only [ok_need, ok_some] at hb
            obtain ⟨hroom3, hb⟩ := hb
            simp -implicitDefEqProofs only [go_sem, start, startE, resVs, resV, resC, allV, retK, Nat.reduceBEq, Nat.reduceAdd, Nat.reduceMul, Nat.reduceLeDiff, Nat.reduceEqDiff, Nat.reduceBNe, Nat.ble_eq, UInt8.reduceToNat, UInt32.reduceToNat, hB2, Bool.true_eq_false, Bool.false_eq_true, false_implies, true_implies, true_and, and_true]
            subst hids
            have hlv := h2.lv hst
            unfold lvC at hlv
            have C1 : ∀ φ : St, (∃ s3 rr3 ids3, StI s s3 B { r.2.2.2 with st := ⟨v.dict_, v.l_ ++ [r.1]⟩ :: vs } rr3 ids3 ∧ φ = ⟨[(6, zL), (9, .ref B 0)], [], s3⟩) → J φ := fun φ hφ => hb φ hφ
            refine x_to3 (fun φ => ∃ s3 rr3 ids3, StI s s3 B { r.2.2.2 with st := ⟨v.dict_, v.l_ ++ [r.1]⟩ :: vs } rr3 ids3 ∧ φ = ⟨[(6, zL), (9, .ref B 0)], [], s3⟩) ?_ ?_
            rotate_left
            · rintro φ ⟨s3, rr3, ids3, h3, rfl⟩
              unfold zL
              simp -implicitDefEqProofs only [go_sem, start, startE, resVs, resV, resC, allV, retK, Nat.reduceBEq, Nat.reduceAdd, Nat.reduceMul, Nat.reduceLeDiff, Nat.reduceEqDiff, Nat.reduceBNe, Nat.ble_eq, UInt8.reduceToNat, UInt32.reduceToNat]
              exact C1 _ ⟨s3, rr3, ids3, h3, rfl⟩
            · intro K hK
              clear C1 hb
              repeat' (first | (simp only [xwpK_eq, xwp_cons, xalt_cons, xalt_nil, xrdy, xrev, Bool.not_true, Bool.not_false, Bool.or_true, Bool.true_or, Bool.false_or, Bool.or_false, Bool.and_true, Bool.true_and, Bool.and_false, Bool.false_and, cond_true, cond_false, true_and, and_true]; done) | with_reducible refine ⟨?_, ?_⟩ | with_reducible exact trivial | (simp only [xwpK_eq, xwp_cons, xalt_cons, xalt_nil, xrdy, xrev, Bool.not_true, Bool.not_false, Bool.or_true, Bool.true_or, Bool.false_or, Bool.or_false, Bool.and_true, Bool.true_and, Bool.and_false, Bool.false_and, cond_true, cond_false, true_and, and_true]) | simp -implicitDefEqProofs only [go_sem, start, startE, resVs, resV, resC, allV, retK, Nat.reduceBEq, Nat.reduceAdd, Nat.reduceMul, Nat.reduceLeDiff, Nat.reduceEqDiff, Nat.reduceBNe, Nat.ble_eq, UInt8.reduceToNat, UInt32.reduceToNat, hlv])
              all_goals
                refine val_app2 rfl h2 hst hroom3 r.1 (fun S3 rb cap cs g1 g2 q1 q2 hle f1 f2 => ?_)
                obtain ⟨ra, ia, f1⟩ := f1
                obtain ⟨rz, iz, f2⟩ := f2
                repeat' (first | exact hK _ ⟨_, _, _, f1, rfl⟩ | exact hK _ ⟨_, _, _, f2, rfl⟩ | omega | (simp only [xwpK_eq, xwp_cons, xalt_cons, xalt_nil, xrdy, xrev, Bool.not_true, Bool.not_false, Bool.or_true, Bool.true_or, Bool.false_or, Bool.or_false, Bool.and_true, Bool.true_and, Bool.and_false, Bool.false_and, cond_true, cond_false, true_and, and_true]; done) | with_reducible refine ⟨?_, ?_⟩ | with_reducible exact trivial | (simp only [xwpK_eq, xwp_cons, xalt_cons, xalt_nil, xrdy, xrev, Bool.not_true, Bool.not_false, Bool.or_true, Bool.true_or, Bool.false_or, Bool.or_false, Bool.and_true, Bool.true_and, Bool.and_false, Bool.false_and, cond_true, cond_false, true_and, and_true]) | simp -implicitDefEqProofs only [go_sem, start, startE, resVs, resV, resC, allV, retK, Nat.reduceBEq, Nat.reduceAdd, Nat.reduceMul, Nat.reduceLeDiff, Nat.reduceEqDiff, Nat.reduceBNe, Nat.ble_eq, UInt8.reduceToNat, UInt32.reduceToNat, g1, g2, q1, q2])
end Go.AB
end

section
set_option maxRecDepth 4000
namespace Go.AB
open Go
end Go.AB
end

section
set_option maxRecDepth 4000
namespace Go.AB
open Go
attribute [-go_sem] xwp_cons xwpK_eq xalt_cons xalt_nil
@[go_sem] theorem pad_api_Value0 (l : List api_Value) : pad [.int .i64 0, .int .i64 0, .str [], .sl false 4 0 []] (views (AB.sub (flat l) 0 4)) = [.int .i64 ((ix l 0).Kind), .int .i64 ((ix l 0).N), .str ((ix l 0).S).b, .sl false 4 ((ix l 0).L).length (flat ((ix l 0).L))] := pad_api_Value l 0
def cmp_isNaNstring (x_0 : Str) : Option (Bool) :=
 some (!(x_0.b == x_0.b))
def ir_cmp_isNaNstring : IC :=
 (.seq (.reg none [i1 2 (.mov false (.c (.bool false)))] [0])
 (.seq (.reg none [mv 3 0,
 mv 4 0,
 i1 5 (.bin .neq (.t 3) (.t 4)),
 mv 2 5] [2])
 .ret))
def res_cmp_isNaNstring : List IRes := [⟨2, true, none⟩]
theorem is_cmp_isNaNstring : fnIs Go.Proofs.Tryz.prog 248 6 res_cmp_isNaNstring ir_cmp_isNaNstring = true := by kernel_rfl
theorem cmp_isNaNstring_fn {x_0} {s : Store} {Q : List AV → Store → Prop}  : ok (cmp_isNaNstring x_0) (fun r => Q [.bool r] s) → FN Go.Proofs.Tryz.prog 248 [.str x_0.b] s Q := by
 intro h
 refine FN.of (draw_ok mix) is_cmp_isNaNstring rfl (Nat.le_of_ble_eq_true rfl) ?_
 revert h
 rw [ir_cmp_isNaNstring, res_cmp_isNaNstring, cmp_isNaNstring]
 repeat' (first
  | with_reducible exact tt_to
  | with_reducible refine and_to ?_ ?_
  | with_reducible exact im_and
  | with_reducible refine im_to ?_
  | simp -implicitDefEqProofs only [go_sem, seval])
theorem cmp_isNaNstring_fe {x_0} {s : Store} {r : Bool}  (h : cmp_isNaNstring x_0 = some r) : FE Go.Proofs.Tryz.prog 248 [.str x_0.b] s [.bool r] s := cmp_isNaNstring_fn  ⟨r, h, rfl, rfl⟩
def cmp_Comparestring (x_0 : Str) (y_1 : Str) : Option (Int) :=
 bnd (cmp_isNaNstring x_0) fun r1 =>
 bnd (cmp_isNaNstring y_1) fun r2 =>
 if r1 then
  if r2 then
   some 0
  else
   some (-1)
 else
  if r2 then
   some 1
  else
   if Op.bytesLess x_0.b y_1.b then
    some (-1)
   else
    if !((Op.bytesLess x_0.b y_1.b) || (x_0.b == y_1.b)) then
     some 1
    else
     some 0
def ir_cmp_Comparestring : IC :=
 (.seq (.reg none [i1 4 (.mov false (.c (.int .i64 0)))] [0, 1])
 (.seq (.reg none [mv 7 0,
 i1 8 (.call 248 [(.t 7)]),
 mv 5 8] [0, 1, 5])
 (.seq (.reg none [mv 9 1,
 i1 10 (.call 248 [(.t 9)]),
 mv 6 10] [0, 1, 5, 6])
 (.seq (.seq (.reg none [mv 11 5] [0, 1, 6, 11])
 (.cond (.t 11) (.seq (.seq (.reg none [mv 12 6] [12])
 (.cond (.t 12) (.seq (.reg none [i1 4 (.mov false (.c (.int .i64 0)))] [4])
 .ret)
 .skip))
 (.seq (.reg none [i1 4 (.mov false (.c (.int .i64 (-1))))] [4])
 .ret))
 .skip))
 (.seq (.seq (.reg none [mv 13 6] [0, 1, 13])
 (.cond (.t 13) (.seq (.reg none [i1 4 (.mov false (.c (.int .i64 1)))] [4])
 .ret)
 .skip))
 (.seq (.seq (.reg none [mv 14 0,
 mv 15 1,
 i1 16 (.bin .lss (.t 14) (.t 15))] [0, 1, 16])
 (.cond (.t 16) (.seq (.reg none [i1 4 (.mov false (.c (.int .i64 (-1))))] [4])
 .ret)
 .skip))
 (.seq (.seq (.reg none [mv 17 0,
 mv 18 1,
 i1 19 (.bin .gtr (.t 17) (.t 18))] [19])
 (.cond (.t 19) (.seq (.reg none [i1 4 (.mov false (.c (.int .i64 1)))] [4])
 .ret)
 .skip))
 (.seq (.reg none [i1 4 (.mov false (.c (.int .i64 0)))] [4])
 .ret))))))))
def res_cmp_Comparestring : List IRes := [⟨4, true, none⟩]
theorem is_cmp_Comparestring : fnIs Go.Proofs.Tryz.prog 212 20 res_cmp_Comparestring ir_cmp_Comparestring = true := by kernel_rfl
theorem cmp_Comparestring_fn {x_0 y_1} {s : Store} {Q : List AV → Store → Prop}  : ok (cmp_Comparestring x_0 y_1) (fun r => Q [.int .i64 r] s) → FN Go.Proofs.Tryz.prog 212 [.str x_0.b, .str y_1.b] s Q := by
 intro h
 refine FN.of (draw_ok mix) is_cmp_Comparestring rfl (Nat.le_of_ble_eq_true rfl) ?_
 revert h
 rw [ir_cmp_Comparestring, res_cmp_Comparestring, cmp_Comparestring]
 repeat' (first
  | with_reducible exact tt_to
  | with_reducible refine and_to ?_ ?_
  | with_reducible exact im_and
  | with_reducible refine im_to ?_
  | with_reducible refine call_to (fun _ (h : cmp_isNaNstring x_0 = some _) => cmp_isNaNstring_fe h) (fun r1 => ?_)
  | with_reducible refine call_to_q (fun _ (h : cmp_isNaNstring x_0 = some _) => cmp_isNaNstring_fe h) (fun _ => rfl) (fun r1 => ?_)
  | with_reducible refine call_to (fun _ (h : cmp_isNaNstring x_0 = some _) => (by refine FE_cast ?_ (cmp_isNaNstring_fe h); simp -implicitDefEqProofs only [go_sem, seval])) (fun r1 => ?_)
  | with_reducible refine call_to_q (fun _ (h : cmp_isNaNstring x_0 = some _) => (by refine FE_cast ?_ (cmp_isNaNstring_fe h); simp -implicitDefEqProofs only [go_sem, seval])) (fun _ => rfl) (fun r1 => ?_)
  | with_reducible refine call_to (fun _ (h : cmp_isNaNstring y_1 = some _) => cmp_isNaNstring_fe h) (fun r2 => ?_)
  | with_reducible refine call_to_q (fun _ (h : cmp_isNaNstring y_1 = some _) => cmp_isNaNstring_fe h) (fun _ => rfl) (fun r2 => ?_)
  | with_reducible refine call_to (fun _ (h : cmp_isNaNstring y_1 = some _) => (by refine FE_cast ?_ (cmp_isNaNstring_fe h); simp -implicitDefEqProofs only [go_sem, seval])) (fun r2 => ?_)
  | with_reducible refine call_to_q (fun _ (h : cmp_isNaNstring y_1 = some _) => (by refine FE_cast ?_ (cmp_isNaNstring_fe h); simp -implicitDefEqProofs only [go_sem, seval])) (fun _ => rfl) (fun r2 => ?_)
  | simp -implicitDefEqProofs only [go_sem, seval])
theorem cmp_Comparestring_fe {x_0 y_1} {s : Store} {r : Int}  (h : cmp_Comparestring x_0 y_1 = some r) : FE Go.Proofs.Tryz.prog 212 [.str x_0.b, .str y_1.b] s [.int .i64 r] s := cmp_Comparestring_fn  ⟨r, h, rfl, rfl⟩
def parse_pairs_1 (a_0 : (List api_Value)) (b_1 : (List api_Value)) : Option (Int) :=
 need (0 ≤ (0 : Int) ∧ (0 : Int) < a_0.length) <|
 need (0 ≤ (0 : Int) ∧ (0 : Int) < b_1.length) <|
 bnd (cmp_Comparestring ((ix a_0 0).S) ((ix b_1 0).S)) fun r1 =>
 some r1
def ir_parse_pairs_1 : IC :=
 (.seq (.reg none [i1 4 (.mov false (.c (.int .i64 0)))] [0, 1])
 (.seq (.reg (some 10) [mv 5 0,
 i1 6 (.indexAddr [.int .i64 0, .int .i64 0, .str [], .sl false 4 0 []] (.t 5) (.c (.int .i64 0))),
 i1 7 (.fieldAddr 2 (.t 6)),
 i1 8 (.load 1 false (.t 7)),
 mv 9 1,
 i1 10 (.indexAddr [.int .i64 0, .int .i64 0, .str [], .sl false 4 0 []] (.t 9) (.c (.int .i64 0))),
 i1 11 (.fieldAddr 2 (.t 10)),
 i1 12 (.load 1 false (.t 11)),
 i1 13 (.call 212 [(.t 8), (.t 12)]),
 mv 4 13] [4])
 .ret))
def res_parse_pairs_1 : List IRes := [⟨4, true, none⟩]
theorem is_parse_pairs_1 : fnIs Go.Proofs.Tryz.prog 211 14 res_parse_pairs_1 ir_parse_pairs_1 = true := by kernel_rfl
theorem parse_pairs_1_fn {a_0 b_1} {s : Store} {Q : List AV → Store → Prop}  : ok (parse_pairs_1 a_0 b_1) (fun r => Q [.int .i64 r] s) → FN Go.Proofs.Tryz.prog 211 [.sl false 4 a_0.length (flat a_0), .sl false 4 b_1.length (flat b_1)] s Q := by
 intro h
 refine FN.of (draw_ok mix) is_parse_pairs_1 rfl (Nat.le_of_ble_eq_true rfl) ?_
 revert h
 rw [ir_parse_pairs_1, res_parse_pairs_1, parse_pairs_1]
 repeat' (first
  | with_reducible exact tt_to
  | with_reducible refine and_to ?_ ?_
  | with_reducible exact im_and
  | with_reducible refine im_to ?_
  | with_reducible refine call_to (fun _ (h : cmp_Comparestring ((ix a_0 0).S) ((ix b_1 0).S) = some _) => cmp_Comparestring_fe h) (fun r1 => ?_)
  | with_reducible refine call_to_q (fun _ (h : cmp_Comparestring ((ix a_0 0).S) ((ix b_1 0).S) = some _) => cmp_Comparestring_fe h) (fun _ => rfl) (fun r1 => ?_)
  | with_reducible refine call_to (fun _ (h : cmp_Comparestring ((ix a_0 0).S) ((ix b_1 0).S) = some _) => (by refine FE_cast ?_ (cmp_Comparestring_fe h); simp -implicitDefEqProofs only [go_sem, seval])) (fun r1 => ?_)
  | with_reducible refine call_to_q (fun _ (h : cmp_Comparestring ((ix a_0 0).S) ((ix b_1 0).S) = some _) => (by refine FE_cast ?_ (cmp_Comparestring_fe h); simp -implicitDefEqProofs only [go_sem, seval])) (fun _ => rfl) (fun r1 => ?_)
  | simp -implicitDefEqProofs only [go_sem, seval])
theorem parse_pairs_1_fe {a_0 b_1} {s : Store} {r : Int}  (h : parse_pairs_1 a_0 b_1 = some r) : FE Go.Proofs.Tryz.prog 211 [.sl false 4 a_0.length (flat a_0), .sl false 4 b_1.length (flat b_1)] s [.int .i64 r] s := parse_pairs_1_fn  ⟨r, h, rfl, rfl⟩
end Go.AB
end

section
set_option maxRecDepth 4000
namespace Go.AB
open Go
attribute [-go_sem] Nat.add_zero ge_0 part_zero xwp_cons xwpK_eq xalt_cons xalt_nil
def ir_insSort : IC :=
 (.seq (.reg none [mv 10 1,
 i1 11 (.bin .add (.t 10) (.c (.int .i64 1))),
 mv 8 11] [0, 1, 2, 3, 8])
 (.block 0 (.loop [(0, false), (1, false), (2, false), (3, false), (8, false)] (.seq (.seq (.reg none [mv 12 8,
 mv 13 2,
 i1 14 (.bin .lss (.t 12) (.t 13))] [0, 1, 2, 3, 8, 14])
 (.cond (.t 14) .skip
 (.exit 0)))
 (.seq (.block 1 (.seq (.reg none [mv 17 8,
 mv 9 17] [0, 1, 2, 3, 8, 9])
 (.block 2 (.loop [(0, false), (1, false), (2, false), (3, false), (8, false), (9, false)] (.seq (.seq (.reg (some 17) [mv 18 9,
 mv 19 1,
 i1 20 (.bin .gtr (.t 18) (.t 19)),
 mv 21 20,
 mvg 22 3 21 true,
 mvg 23 0 21 true,
 mvg 24 9 21 true,
 i1g 25 21 true (.indexAddr [.sl false 4 0 []] (.t 23) (.t 24)),
 i1g 26 21 true (.loadR [.sl false 4 0 []] false (.t 25)),
 mvg 27 0 21 true,
 mvg 28 9 21 true,
 i1g 29 21 true (.bin .sub (.t 28) (.c (.int .i64 1))),
 i1g 30 21 true (.indexAddr [.sl false 4 0 []] (.t 27) (.t 29)),
 i1g 31 21 true (.loadR [.sl false 4 0 []] false (.t 30)),
 i1g 32 21 true (.callv (.t 22) [(.t 26), (.t 31)]),
 i1g 33 21 true (.bin .lss (.t 32) (.c (.int .i64 0))),
 i1 34 (.pick (.t 21) (.t 33) (.c (.bool false)))] [0, 1, 2, 3, 8, 9, 34])
 (.cond (.t 34) .skip
 (.exit 2)))
 (.seq (.block 3 (.regB [] [(0, 0, mv 37 0),
 (0, 1, mv 38 9),
 (1, 2, mv 39 0),
 (1, 3, mv 40 9),
 (1, 4, i1 41 (.bin .sub (.t 40) (.c (.int .i64 1)))),
 (0, 5, mv 42 0),
 (0, 6, mv 43 9),
 (0, 7, i1 44 (.bin .sub (.t 43) (.c (.int .i64 1)))),
 (0, 8, i1 45 (.indexAddr [.sl false 4 0 []] (.t 42) (.t 44))),
 (0, 9, i1 46 (.load 1 false (.t 45))),
 (0, 10, mv 47 0),
 (0, 11, mv 48 9),
 (0, 12, i1 49 (.indexAddr [.sl false 4 0 []] (.t 47) (.t 48))),
 (0, 13, i1 50 (.load 1 false (.t 49))),
 (0, 14, i1 51 (.indexAddr [.sl false 4 0 []] (.t 37) (.t 38))),
 (2, 15, i0 (.store 1 (.t 51) (.t 46))),
 (0, 16, i1 52 (.indexAddr [.sl false 4 0 []] (.t 39) (.t 41))),
 (2, 17, i0 (.store 1 (.t 52) (.t 50)))] [0, 1, 2, 3, 8, 9]))
 (.reg none [mv 35 9,
 i1 36 (.bin .sub (.t 35) (.c (.int .i64 1))),
 mv 9 36] [0, 1, 2, 3, 8, 9])))))))
 (.reg none [mv 15 8,
 i1 16 (.bin .add (.t 15) (.c (.int .i64 1))),
 mv 8 16] [0, 1, 2, 3, 8]))))))
def res_insSort : List IRes := []
theorem is_insSort : fnIs Go.Proofs.Tryz.prog 267 53 res_insSort ir_insSort = true := by kernel_rfl
abbrev VL := List api_Value
def insBody (a : Int) (q : List VL × Int) : Option ((List VL × Int) ⊕ List VL) :=
 need (0 ≤ q.2 ∧ q.2 < q.1.length ∧ q.2 < 2 ^ 62) <| bif decide (q.2 > a) then
  need (1 ≤ q.2) <| bnd (parse_pairs_1 (ix q.1 q.2) (ix q.1 (q.2 - 1))) fun c =>
  bif decide (c < 0) then some (.inl ((q.1.set q.2.toNat (ix q.1 (q.2 - 1))).set (q.2 - 1).toNat (ix q.1 q.2), q.2 - 1)) else some (.inr q.1)
 else some (.inr q.1)
def insOuter (a b : Int) (q : List VL × Int) : Option ((List VL × Int) ⊕ List VL) :=
 bif decide (q.2 < b) then need (0 ≤ q.2 ∧ q.2 + 1 < 2 ^ 62) <| bnd (iter (insBody a) (q.1, q.2)) fun l => some (.inl (l, q.2 + 1)) else some (.inr q.1)
def insM (l : List VL) (a b : Int) : Option (List VL) := iter (insOuter a b) (l, a + 1)
theorem row1 (l : List VL) (sp : List AV) {j : Int} (h0 : 0 ≤ j) (h : j < l.length) : j.toNat * 1 + 1 ≤ (flat l ++ sp).length ∧ views (AB.sub (flat l ++ sp) (j.toNat * 1) 1) = [.sl false 4 (ix l j).length (flat (ix l j))] := by
  have hj : j.toNat < l.length := by omega
  have hs := row_sub l sp 1 j.toNat 1 rfl (by omega)
  refine ⟨?_, ?_⟩
  · rw [List.length_append, flat_len]
    have : Enc.w VL = 1 := rfl
    rw [this]; omega
  · rw [Nat.one_mul] at hs
    rw [hs, List.drop_eq_getElem_cons hj]
    have : ix l j = l[j.toNat] := by unfold ix; simp [hj]
    rw [this]
    rfl
theorem set1 (l : List VL) (sp : List AV) (x : VL) {j : Int} (h0 : 0 ≤ j) (h : j < l.length) : setAt (flat l ++ sp) (j.toNat * 1) [.sl false 4 x.length (flat x)] = flat (l.set j.toNat x) ++ sp := by
 have hj : j.toNat < l.length := by omega
 have hs := row_set l [x] sp 1 j.toNat rfl (by simp; omega)
 have e : flat [x] = [.sl false 4 x.length (flat x)] := rfl
 rw [e] at hs
 rw [hs, List.set_eq_take_append_cons_drop, if_pos hj]
 simp
theorem ins_fn {s : Store} {rb cap : Nat} {sp : List AV} {l : List VL} {a b : Int} {Q : List AV → Store → Prop} (hs : s rb = none) (ha : 0 ≤ a ∧ a + 1 < 2 ^ 62) (hr : l.length ≤ room)
    (hm : ok (insM l a b) fun l' => Q [] (s.set rb (.cells (flat l' ++ sp)))) : FN Go.Proofs.Tryz.prog 267 [.arr rb 0 l.length cap, .int .i64 a, .int .i64 b, .fn 211 [] []] (s.set rb (.cells (flat l ++ sp))) Q := by
  unfold insM at hm
  refine FN.of (draw_ok mix) is_insSort rfl (Nat.le_of_ble_eq_true rfl) ?_
  rw [ir_insSort, res_insSort]
  simp -implicitDefEqProofs only [go_sem, start, startE, resVs, resV, resC, allV, retK, Nat.reduceBEq, Nat.reduceAdd, Nat.reduceMul, Nat.reduceLeDiff, Nat.reduceEqDiff, Nat.reduceBNe, Nat.ble_eq, UInt8.reduceToNat, UInt32.reduceToNat]
  rw [w64_id (by omega) (by omega)]
  refine iter_to (fun (q : List VL × Int) => (⟨[(0, .arr rb 0 q.1.length cap), (1, .int .i64 a), (2, .int .i64 b), (3, .fn 211 [] []), (8, .int .i64 q.2)], [], s.set rb (.cells (flat q.1 ++ sp))⟩ : St)) rfl ?_ hm
  intro J q hb
  unfold insOuter at hb
  cases hlt : decide (q.2 < b) with
  | false =>
    rw [hlt, cond_false, ok_some] at hb
    simp -implicitDefEqProofs only [go_sem, start, startE, resVs, resV, resC, allV, retK, Nat.reduceBEq, Nat.reduceAdd, Nat.reduceMul, Nat.reduceLeDiff, Nat.reduceEqDiff, Nat.reduceBNe, Nat.ble_eq, UInt8.reduceToNat, UInt32.reduceToNat, hlt, Bool.true_eq_false, Bool.false_eq_true, false_implies, true_implies, true_and, and_true]
    exact hb
  | true =>
    rw [hlt, cond_true, ok_need, ok_bnd] at hb
    obtain ⟨hb0, hb⟩ := hb
    simp -implicitDefEqProofs only [go_sem, start, startE, resVs, resV, resC, allV, retK, Nat.reduceBEq, Nat.reduceAdd, Nat.reduceMul, Nat.reduceLeDiff, Nat.reduceEqDiff, Nat.reduceBNe, Nat.ble_eq, UInt8.reduceToNat, UInt32.reduceToNat, hlt, Bool.true_eq_false, Bool.false_eq_true, false_implies, true_implies, true_and, and_true]
    refine iter_to (fun (q' : List VL × Int) => (⟨[(0, .arr rb 0 q'.1.length cap), (1, .int .i64 a), (2, .int .i64 b), (3, .fn 211 [] []), (8, .int .i64 q.2), (9, .int .i64 q'.2)], [], s.set rb (.cells (flat q'.1 ++ sp))⟩ : St)) rfl ?_ hb
    intro J2 q' hb2
    unfold insBody at hb2
    rw [ok_need] at hb2
    obtain ⟨hb3, hb2⟩ := hb2
    have hw : w64 (q'.2 - 1) = q'.2 - 1 := w64_id (by omega) (by omega)
    obtain ⟨r1, r2⟩ := row1 q'.1 sp (j := q'.2) (by omega) hb3.2.1
    cases hgt : decide (q'.2 > a) with
    | false =>
      rw [hgt, cond_false, ok_some] at hb2
      obtain ⟨r3, r4⟩ := row1 q'.1 sp (j := ((q'.2 - 1).toNat : Int)) (by omega) (by omega)
      rw [Int.toNat_natCast] at r3 r4
      generalize hcs : flat q'.1 ++ sp = cs
      rw [hcs] at r1 r2 r3 r4
      have d1 := decide_eq_true r1
      have d3 := decide_eq_true r3
      simp -implicitDefEqProofs only [go_sem, start, startE, resVs, resV, resC, allV, retK, Nat.reduceBEq, Nat.reduceAdd, Nat.reduceMul, Nat.reduceLeDiff, Nat.reduceEqDiff, Nat.reduceBNe, Nat.ble_eq, UInt8.reduceToNat, UInt32.reduceToNat, hgt, hw, r2, r4, d1, d3, Bool.true_eq_false, Bool.false_eq_true, false_implies, true_implies, true_and, and_true]
      refine ⟨[.int .i64 0], rfl, ?_⟩
      simp -implicitDefEqProofs only [go_sem, start, startE, resVs, resV, resC, allV, retK, Nat.reduceBEq, Nat.reduceAdd, Nat.reduceMul, Nat.reduceLeDiff, Nat.reduceEqDiff, Nat.reduceBNe, Nat.ble_eq, UInt8.reduceToNat, UInt32.reduceToNat, Bool.true_eq_false, Bool.false_eq_true, false_implies, true_implies, true_and, and_true]
      subst hcs
      rw [w64_id (by omega) (by omega)]
      simp only [ok_some] at hb2
      exact hb2
    | true =>
      rw [hgt, cond_true, ok_need, ok_bnd] at hb2
      obtain ⟨hb4, c, hc, hb2⟩ := hb2
      obtain ⟨r3, r4⟩ := row1 q'.1 sp (j := q'.2 - 1) (by omega) (by omega)
      generalize hcs : flat q'.1 ++ sp = cs
      rw [hcs] at r1 r2 r3 r4
      have d1 := decide_eq_true r1
      have d3 := decide_eq_true r3
      simp -implicitDefEqProofs only [go_sem, start, startE, resVs, resV, resC, allV, retK, Nat.reduceBEq, Nat.reduceAdd, Nat.reduceMul, Nat.reduceLeDiff, Nat.reduceEqDiff, Nat.reduceBNe, Nat.ble_eq, UInt8.reduceToNat, UInt32.reduceToNat, hgt, hw, r2, r4, d1, d3, Bool.true_eq_false, Bool.false_eq_true, false_implies, true_implies, true_and, and_true]
      refine ⟨⟨hb3.1, hb3.2.1⟩, r1, ⟨by omega, by omega⟩, r3, [.int .i64 c], rfl, ⟨211, [.sl false 4 (ix q'.1 q'.2).length (flat (ix q'.1 q'.2)), .sl false 4 (ix q'.1 (q'.2 - 1)).length (flat (ix q'.1 (q'.2 - 1)))], ⟨[], [], _, rfl, rfl, rfl⟩, by kernel_rfl, parse_pairs_1_fe hc⟩, ?_⟩
      · simp -implicitDefEqProofs only [go_sem, start, startE, resVs, resV, resC, allV, retK, Nat.reduceBEq, Nat.reduceAdd, Nat.reduceMul, Nat.reduceLeDiff, Nat.reduceEqDiff, Nat.reduceBNe, Nat.ble_eq, UInt8.reduceToNat, UInt32.reduceToNat, hw, r2, r4, d1, d3, Bool.true_eq_false, Bool.false_eq_true, false_implies, true_implies, true_and, and_true]
        refine ⟨fun hx => ?_, fun hx => ?_⟩
        · rw [hx, cond_true, ok_some] at hb2
          subst hcs
          have hl : (q'.1.set q'.2.toNat (ix q'.1 (q'.2 - 1))).length = q'.1.length := List.length_set ..
          rw [set1 q'.1 sp (ix q'.1 (q'.2 - 1)) hb3.1 hb3.2.1, set1 _ sp (ix q'.1 q'.2) (j := q'.2 - 1) (by omega) (by rw [hl]; omega)]
          obtain ⟨r5, _⟩ := row1 (q'.1.set q'.2.toNat (ix q'.1 (q'.2 - 1))) sp (j := q'.2 - 1) (by omega) (by rw [hl]; omega)
          have hl2 : ((q'.1.set q'.2.toNat (ix q'.1 (q'.2 - 1))).set (q'.2 - 1).toNat (ix q'.1 q'.2)).length = q'.1.length := by rw [List.length_set, List.length_set]
          refine ⟨⟨by omega, by omega⟩, ⟨hb3.1, hb3.2.1⟩, ⟨hb3.1, hb3.2.1⟩, r1, ⟨by omega, by omega⟩, r5, ?_⟩
          have hb5 := hb2
          simp only [caseS_l, hl2] at hb5
          exact hb5
        · rw [hx, cond_false, ok_some] at hb2
          subst hcs
          rw [w64_id (by omega) (by omega)]
          simp only [caseS_r, caseS_l, ok_some] at hb2
          exact hb2
end Go.AB
end

section
namespace Go.AB
open Go
theorem iter_upto {S O : Type} {body : S → Option (S ⊕ O)} {s0 : S} {o : O} (n : Nat) (st : Nat → S) (h0 : st 0 = s0) (hn : n < 18446744073709551615) (hs : ∀ k, k < n → body (st k) = some (.inl (st (k + 1)))) (he : body (st n) = some (.inr o)) : iter body s0 = some o := by
 have key : ∀ j, j ≤ n → ∀ m, iterN body (m + 1 + j) (st (n - j)) = some o := by
  intro j
  induction j with
  | zero =>
   intro _ m
   show iterN body (m + 1) (st n) = some o
   unfold iterN
   rw [he]
  | succ j ih =>
   intro hj m
   show iterN body (m + 1 + j + 1) (st (n - (j + 1))) = some o
   unfold iterN
   rw [hs _ (by omega), show n - (j + 1) + 1 = n - j by omega]
   exact ih (by omega) m
 have := key n (Nat.le_refl n) (18446744073709551616 - 1 - n)
 rw [Nat.sub_self, h0, show 18446744073709551616 - 1 - n + 1 + n = 18446744073709551616 by omega] at this
 exact this
theorem iter_acc {A O : Type} {body : A × Int → Option ((A × Int) ⊕ O)} {a0 : A} {o : O} (n : Nat) (acc : Nat → A) (h0 : acc 0 = a0) (hn : n < 4611686018427387904) (hs : ∀ k, k < n → body (acc k, (k : Int)) = some (.inl (acc (k + 1), w64 ((k : Int) + 1)))) (he : body (acc n, (n : Int)) = some (.inr o)) : iter body (a0, 0) = some o :=
 iter_upto n (fun k => (acc k, (k : Int))) (by rw [h0]; rfl) (by omega) (fun k hk => by
  rw [hs k hk, w64_id (by omega) (by omega)]; rfl) he
theorem iter_cnt {O : Type} {body : Int → Option (Int ⊕ O)} {o : O} (n : Nat) (hn : n < 4611686018427387904) (hs : ∀ k, k < n → body (k : Int) = some (.inl (w64 ((k : Int) + 1)))) (he : body (n : Int) = some (.inr o)) : iter body 0 = some o :=
 iter_upto n (fun k => (k : Int)) rfl (by omega) (fun k hk => by
  rw [hs k hk, w64_id (by omega) (by omega)]; rfl) he
theorem jn_of {α β : Type} {o : Option α} {a : α} {K : α → Option β} {r : Option β} (h : o = some a) (k : K a = r) : jn o K = r := by rw [h]; exact k
theorem bnd_of {α β : Type} {o : Option α} {a : α} {K : α → Option β} {r : Option β} (h : o = some a) (k : K a = r) : bnd o K = r := by rw [h]; exact k
theorem jnS_of {X Y α : Type} {o : Option (X ⊕ Y)} {z : X ⊕ Y} {F : X → Option α} {G : Y → Option α} {r : Option α} (h : o = some z) (k : (match z with | .inl a => F a | .inr b => G b) = r) : jnS o F G = r := by
 rw [h]
 cases z <;> exact k
theorem bndS_of {X Y α : Type} {o : Option (X ⊕ Y)} {z : X ⊕ Y} {F : X → Option α} {G : Y → Option α} {r : Option α} (h : o = some z) (k : (match z with | .inl a => F a | .inr b => G b) = r) : bndS o F G = r := by
 rw [h]
 cases z <;> exact k
theorem need_of {α : Type} {c : Prop} [Decidable c] {o r : Option α} (h : c) (k : o = r) : need c o = r := by rw [need_pos h]; exact k
theorem if_of {α : Type} {c : Prop} [Decidable c] {a b r : α} (h : c) (k : a = r) : (if c then a else b) = r := by rw [if_pos h]; exact k
theorem if_not {α : Type} {c : Prop} [Decidable c] {a b r : α} (h : ¬ c) (k : b = r) : (if c then a else b) = r := by rw [if_neg h]; exact k
inductive Runs {S O : Type} (body : S → Option (S ⊕ O)) : Nat → S → O → Prop
 | stop {m : Nat} {s : S} {o : O} (h : body s = some (.inr o)) : Runs body (m + 1) s o
 | step {m : Nat} {s t : S} {o : O} (h : body s = some (.inl t)) (k : Runs body m t o) : Runs body (m + 1) s o
theorem Runs.iterN {S O : Type} {body : S → Option (S ⊕ O)} {m : Nat} {s : S} {o : O} (h : Runs body m s o) : ∀ n, m ≤ n → iterN body n s = some o := by
 induction h with
 | stop h =>
  intro n hn
  obtain ⟨k, rfl⟩ : ∃ k, n = k + 1 := ⟨n - 1, by omega⟩
  unfold AB.iterN; rw [h]
 | step h _ ih =>
  intro n hn
  obtain ⟨k, rfl⟩ : ∃ k, n = k + 1 := ⟨n - 1, by omega⟩
  unfold AB.iterN; rw [h]
  exact ih k (by omega)
theorem Runs.iter {S O : Type} {body : S → Option (S ⊕ O)} {m : Nat} {s : S} {o : O} (h : Runs body m s o) (hm : m ≤ 18446744073709551616) : iter body s = some o := h.iterN _ hm
end Go.AB
end

section
set_option maxRecDepth 4000
namespace Go.AB
open Go
attribute [-go_sem] Nat.add_zero ge_0 part_zero xwp_cons xwpK_eq xalt_cons xalt_nil
def ir_grow : IC :=
 (.seq (.reg none [i1 4 (.mov false (.c (.arr 0 0 0 0)))] [0, 1])
 (.seq (.seq (.reg none [mv 5 1,
 i1 6 (.bin .lss (.t 5) (.c (.int .i64 0)))] [0, 1, 6])
 (.cond (.t 6) .dead
 .skip))
 (.seq (.seq (.reg none [mv 8 1,
 mv 9 0,
 i1 10 (.cap (.t 9)),
 mv 11 0,
 i1 12 (.len 0 (.t 11)),
 i1 13 (.bin .sub (.t 10) (.t 12)),
 i1 14 (.bin .sub (.t 8) (.t 13)),
 mv 1 14] [0, 1])
 (.seq (.reg none [mv 15 1,
 i1 16 (.bin .gtr (.t 15) (.c (.int .i64 0)))] [0, 1, 16])
 (.cond (.t 16) (.reg none [mv 17 0,
 mv 18 0,
 i1 19 (.cap (.t 18)),
 i1 20 (.slice 4 (.t 17) none (some (.t 19)) none),
 mv 21 1,
 i1 22 (.appendZ 4 56 [.int .i64 0, .int .i64 0, .str [], .sl false 4 0 []] (.t 20) (.t 21)),
 mv 23 0,
 i1 24 (.len 0 (.t 23)),
 i1 25 (.slice 4 (.t 22) none (some (.t 24)) none),
 mv 0 25] [0])
 .skip)))
 (.seq (.reg none [mv 26 0,
 mv 4 26] [4])
 .ret))))
def res_grow : List IRes := [⟨4, true, none⟩]
theorem is_grow : fnIs Go.Proofs.Tryz.prog 249 27 res_grow ir_grow = true := by kernel_rfl
def ir_concat : IC :=
 (.seq (.reg none [i1 2 (.mov false (.c (.arr 0 0 0 0)))] [0])
 (.seq (.reg none [i1 3 (.mov false (.c (.int .i64 0)))] [0, 3])
 (.seq (.seq (.reg none [mv 9 0,
 i1 10 (.len 0 (.t 9)),
 i1 11 (.mov false (.c (.int .i64 0)))] [0, 3, 9, 10, 11])
 (.block 0 (.loop [(0, false), (3, false), (9, false), (10, false), (11, false)] (.seq (.reg none [i1 12 (.bin .lss (.t 11) (.t 10))] [0, 3, 9, 10, 11, 12])
 (.seq (.cond (.t 12) .skip
 (.exit 0))
 (.seq (.block 1 (.seq (.reg none [i1 13 (.indexAddr [.sl false 4 0 []] (.t 9) (.t 11)),
 i1 14 (.load 1 false (.t 13)),
 mv 5 14] [0, 3, 5, 9, 10, 11])
 (.seq (.reg none [mv 15 3,
 mv 16 5,
 i1 17 (.len 0 (.t 16)),
 i1 18 (.bin .add (.t 15) (.t 17)),
 mv 3 18] [0, 3, 9, 10, 11])
 (.seq (.reg none [mv 19 3,
 i1 20 (.bin .lss (.t 19) (.c (.int .i64 0)))] [0, 3, 9, 10, 11, 20])
 (.cond (.t 20) .dead
 .skip)))))
 (.reg none [i1 22 (.bin .add (.t 11) (.c (.int .i64 1))),
 mv 11 22] [0, 3, 9, 10, 11])))))))
 (.seq (.reg none [mv 23 3,
 i1 24 (.call 249 [(.c (.arr 0 0 0 0)), (.t 23)]),
 mv 6 24] [0, 6])
 (.seq (.seq (.reg none [mv 25 0,
 i1 26 (.len 0 (.t 25)),
 i1 27 (.mov false (.c (.int .i64 0)))] [6, 25, 26, 27])
 (.block 2 (.loop [(6, false), (25, false), (26, false), (27, false)] (.seq (.reg none [i1 28 (.bin .lss (.t 27) (.t 26))] [6, 25, 26, 27, 28])
 (.seq (.cond (.t 28) .skip
 (.exit 2))
 (.seq (.block 3 (.seq (.reg none [i1 29 (.indexAddr [.sl false 4 0 []] (.t 25) (.t 27)),
 i1 30 (.load 1 false (.t 29)),
 mv 8 30] [6, 8, 25, 26, 27])
 (.reg none [mv 31 6,
 mv 32 8,
 i1 33 (.appendA 4 56 [.int .i64 0, .int .i64 0, .str [], .sl false 4 0 []] (.t 31) (.t 32)),
 mv 6 33] [6, 25, 26, 27])))
 (.reg none [i1 34 (.bin .add (.t 27) (.c (.int .i64 1))),
 mv 27 34] [6, 25, 26, 27])))))))
 (.seq (.reg none [mv 35 6,
 mv 2 35] [2])
 .ret))))))
def res_concat : List IRes := [⟨2, true, none⟩]
theorem is_concat : fnIs Go.Proofs.Tryz.prog 213 36 res_concat ir_concat = true := by kernel_rfl
def ir_stab : IC :=
 (.seq (.reg none [i1 6 (.mov false (.c (.int .i64 20)))] [0, 1, 2, 6])
 (.seq (.reg none [mv 10 6,
 i1 7 (.mov false (.c (.int .i64 0))),
 mv 8 10] [0, 1, 2, 6, 7, 8])
 (.seq (.block 0 (.loop [(0, false), (1, false), (2, false), (6, false), (7, false), (8, false)] (.seq (.seq (.reg none [mv 11 8,
 mv 12 1,
 i1 13 (.bin .leq (.t 11) (.t 12))] [0, 1, 2, 6, 7, 8, 13])
 (.cond (.t 13) .skip
 (.exit 0)))
 (.block 1 (.seq (.reg none [mv 14 0,
 mv 15 7,
 mv 16 8,
 mv 17 2,
 i1 18 (.call 267 [(.t 14), (.t 15), (.t 16), (.t 17)])] [0, 1, 2, 6, 8])
 (.seq (.reg none [mv 19 8,
 mv 7 19] [0, 1, 2, 6, 7, 8])
 (.reg none [mv 20 8,
 mv 21 6,
 i1 22 (.bin .add (.t 20) (.t 21)),
 mv 8 22] [0, 1, 2, 6, 7, 8])))))))
 (.seq (.reg none [mv 23 0,
 mv 24 7,
 mv 25 1,
 mv 26 2,
 i1 27 (.call 267 [(.t 23), (.t 24), (.t 25), (.t 26)])] [0, 1, 2, 6])
 (.block 2 (.loop [(0, false), (1, false), (2, false), (6, false)] (.seq (.seq (.reg none [mv 28 6,
 mv 29 1,
 i1 30 (.bin .lss (.t 28) (.t 29))] [0, 1, 2, 6, 30])
 (.cond (.t 30) .skip
 (.exit 2)))
 (.block 3 (.seq (.reg none [mv 31 6,
 i1 32 (.bin .mul (.c (.int .i64 2)) (.t 31)),
 i1 7 (.mov false (.c (.int .i64 0))),
 mv 8 32] [0, 1, 2, 6, 7, 8])
 (.seq (.block 4 (.loop [(0, false), (1, false), (2, false), (6, false), (7, false), (8, false)] (.seq (.seq (.reg none [mv 33 8,
 mv 34 1,
 i1 35 (.bin .leq (.t 33) (.t 34))] [0, 1, 2, 6, 7, 8, 35])
 (.cond (.t 35) .skip
 (.exit 4)))
 (.block 5 (.seq (.reg none [mv 36 0,
 mv 37 7,
 mv 38 7,
 mv 39 6,
 i1 40 (.bin .add (.t 38) (.t 39)),
 mv 41 8,
 mv 42 2,
 i1 43 (.call 268 [(.t 36), (.t 37), (.t 40), (.t 41), (.t 42)])] [0, 1, 2, 6, 8])
 (.seq (.reg none [mv 44 8,
 mv 7 44] [0, 1, 2, 6, 7, 8])
 (.reg none [mv 45 8,
 mv 46 6,
 i1 47 (.bin .mul (.c (.int .i64 2)) (.t 46)),
 i1 48 (.bin .add (.t 45) (.t 47)),
 mv 8 48] [0, 1, 2, 6, 7, 8])))))))
 (.seq (.seq (.reg none [mv 49 7,
 mv 50 6,
 i1 51 (.bin .add (.t 49) (.t 50)),
 mv 9 51] [0, 1, 2, 6, 7, 9])
 (.seq (.reg none [mv 52 9,
 mv 53 1,
 i1 54 (.bin .lss (.t 52) (.t 53))] [0, 1, 2, 6, 7, 9, 54])
 (.cond (.t 54) (.reg none [mv 55 0,
 mv 56 7,
 mv 57 9,
 mv 58 1,
 mv 59 2,
 i1 60 (.call 268 [(.t 55), (.t 56), (.t 57), (.t 58), (.t 59)])] [0, 1, 2, 6])
 .skip)))
 (.reg none [mv 61 6,
 i1 62 (.bin .mul (.t 61) (.c (.int .i64 2))),
 mv 6 62] [0, 1, 2, 6]))))))))))))
def res_stab : List IRes := []
theorem is_stab : fnIs Go.Proofs.Tryz.prog 247 63 res_stab ir_stab = true := by kernel_rfl
def ir_sortSt : IC :=
 (.reg none [mv 4 0,
 mv 5 0,
 i1 6 (.len 0 (.t 5)),
 mv 7 1,
 i1 8 (.call 247 [(.t 4), (.t 6), (.t 7)])] [])
def res_sortSt : List IRes := []
theorem is_sortSt : fnIs Go.Proofs.Tryz.prog 210 9 res_sortSt ir_sortSt = true := by kernel_rfl
theorem grow_fn {s : Store} {k : Nat} {Q : List AV → Store → Prop} (hn : k * 56 ≤ room) (hq : ∀ s' r', Sub s s' → RowOK s' r' ([] : List api_Value) → Q [rowA r' 0] (rowS s' r' ([] : List api_Value))) : FN Go.Proofs.Tryz.prog 249 [.arr 0 0 0 0, .int .i64 k] s Q := by
  have hr : room = 140737488355328 := rfl
  refine FN.of (draw_ok mix) is_grow rfl (Nat.le_of_ble_eq_true rfl) ?_
  rw [ir_grow, res_grow]
  have h0 : decide ((k : Int) < 0) = false := by simp
  have e00 : ((0 : Nat) : Int) = 0 := rfl
  have w1 : w64 0 = 0 := by decide
  have w2 : w64 (k : Int) = k := w64_id (by omega) (by omega)
  simp -implicitDefEqProofs only [go_sem, start, startE, resVs, resV, resC, allV, retK, Nat.reduceBEq, Nat.reduceAdd, Nat.reduceMul, Nat.reduceLeDiff, Nat.reduceEqDiff, Nat.reduceBNe, Nat.ble_eq, UInt8.reduceToNat, UInt32.reduceToNat, h0, e00, w1, w2, Bool.true_eq_false, Bool.false_eq_true, false_implies, true_implies, true_and, and_true]
  refine ⟨fun hk => ?_, fun hk => ?_⟩
  · have hk : 0 < k := by simpa using hk
    refine ⟨Int.le_refl _, ?_⟩
    refine appendZW_new (n := 0) (cap := 0) (m := k) (b := 0) (off := 0) (by' := 56) (olds := []) rfl rfl rfl (by omega) (by omega) fun b' cap' hb' hc => ?_
    rw [List.nil_append]
    simp -implicitDefEqProofs only [go_sem, start, startE, resVs, resV, resC, allV, retK, Nat.reduceBEq, Nat.reduceAdd, Nat.reduceMul, Nat.reduceLeDiff, Nat.reduceEqDiff, Nat.reduceBNe, Nat.ble_eq, UInt8.reduceToNat, UInt32.reduceToNat]
    have := hq s (some (b', cap', (List.replicate k [.int .i64 0, .int .i64 0, .str [], .sl false 4 0 []]).flatten ++ (List.replicate (cap' - (0 + k)) [.int .i64 0, .int .i64 0, .str [], .sl false 4 0 []]).flatten)) (Sub.refl s)
      ⟨hb', by omega, by simp, by
        have e : (flat ([] : List api_Value)).length = 0 := rfl
        rw [List.length_append, e, List.length_append]
        simp [show Enc.w api_Value = 4 from rfl]
        omega, by
        have hz : ∀ m, views (List.replicate m [AV.int .i64 0, .int .i64 0, .str [], .sl false 4 0 []]).flatten = (List.replicate m [AV.int .i64 0, .int .i64 0, .str [], .sl false 4 0 []]).flatten := fun m => by
          rw [show ([.int .i64 0, .int .i64 0, .str [], .sl false 4 0 []] : List AV) = Enc.cells (⟨0, 0, ⟨[]⟩, []⟩ : api_Value) from rfl, ← flat_rep]
          exact flat_views _
        unfold views at hz ⊢
        rw [List.map_append, hz, hz]⟩
    simp only [Nat.zero_add] at this
    exact ⟨⟨Int.le_refl _, Int.le_refl _, by omega⟩, this⟩
  · have hk : k = 0 := by
      have : ¬ (0 < k) := by simpa using hk
      omega
    have := hq s none (Sub.refl s) rfl
    first | exact this | trace_state
def sumB (ls : List VL) (q : Int × Int) : Option ((Int × Int) ⊕ Int) :=
 bif decide (q.2 < ls.length) then some (.inl (q.1 + (ix ls q.2).length, q.2 + 1)) else some (.inr q.1)
theorem sum_all (ls : List VL) (hl : ls.length < 4611686018427387904) : iter (sumB ls) (0, 0) = some (ls.flatten.length : Int) := by
  refine iter_acc ls.length (fun k => ((ls.take k).flatten.length : Int)) (by simp) hl (fun k hk => ?_) ?_
  · unfold sumB
    have h1 : decide ((k : Int) < ls.length) = true := by simpa using hk
    have h2 : ix ls (k : Int) = ls[k] := by unfold ix; simp [hk]
    have h3 : w64 ((k : Int) + 1) = (k : Int) + 1 := w64_id (by omega) (by omega)
    show (bif decide ((k : Int) < ls.length) then _ else _) = _
    rw [h1, cond_true, h2, h3, List.take_succ_eq_append_getElem hk, List.flatten_append, List.length_append]
    simp
  · unfold sumB
    have h1 : decide ((ls.length : Int) < ls.length) = false := by simp
    show (bif decide ((ls.length : Int) < ls.length) then _ else _) = _
    rw [h1, cond_false, List.take_length]
def catB (ls : List VL) (q : List api_Value × Int) : Option ((List api_Value × Int) ⊕ List api_Value) :=
 bif decide (q.2 < ls.length) then some (.inl (q.1 ++ ix ls q.2, q.2 + 1)) else some (.inr q.1)
theorem cat_all (ls : List VL) (hl : ls.length < 4611686018427387904) : iter (catB ls) ([], 0) = some ls.flatten := by
  refine iter_acc ls.length (fun k => (ls.take k).flatten) (by simp) hl (fun k hk => ?_) ?_
  · unfold catB
    have h1 : decide ((k : Int) < ls.length) = true := by simpa using hk
    have h2 : ix ls (k : Int) = ls[k] := by unfold ix; simp [hk]
    have h3 : w64 ((k : Int) + 1) = (k : Int) + 1 := w64_id (by omega) (by omega)
    show (bif decide ((k : Int) < ls.length) then _ else _) = _
    rw [h1, cond_true, h2, h3, List.take_succ_eq_append_getElem hk, List.flatten_append]
    simp
  · unfold catB
    have h1 : decide ((ls.length : Int) < ls.length) = false := by simp
    show (bif decide ((ls.length : Int) < ls.length) then _ else _) = _
    rw [h1, cond_false, List.take_length]
theorem take_flat_le (ls : List VL) (k : Nat) : (ls.take k).flatten.length ≤ ls.flatten.length := by
 conv => rhs; rw [← List.take_append_drop k ls]
 rw [List.flatten_append, List.length_append]; omega
theorem concat_fn {s : Store} {rb cap : Nat} {sp : List AV} {ls : List VL} {Q : List AV → Store → Prop} (hs : s rb = none) (hpos : ∀ c ∈ ls, 0 < c.length) (hr : ls.flatten.length * 56 ≤ room) (hl : ls.length < 2 ^ 40)
    (hq : ∀ s' r', Sub (s.set rb (.cells (flat ls ++ sp))) s' → RowOK s' r' ls.flatten → Q [rowA r' ls.flatten.length] (rowS s' r' ls.flatten)) : FN Go.Proofs.Tryz.prog 213 [.arr rb 0 ls.length cap] (s.set rb (.cells (flat ls ++ sp))) Q := by
  have hroom : room = 140737488355328 := rfl
  refine FN.of (draw_ok mix) is_concat rfl (Nat.le_of_ble_eq_true rfl) ?_
  rw [ir_concat, res_concat]
  simp -implicitDefEqProofs only [go_sem, start, startE, resVs, resV, resC, allV, retK, Nat.reduceBEq, Nat.reduceAdd, Nat.reduceMul, Nat.reduceLeDiff, Nat.reduceEqDiff, Nat.reduceBNe, Nat.ble_eq, UInt8.reduceToNat, UInt32.reduceToNat]
  generalize hcs : flat ls ++ sp = cs at *
  refine iter_toR (kf := fun _ => True) (fun (q : Int × Int) τ => ∃ k : Nat, k ≤ ls.length ∧ q = (((ls.take k).flatten.length : Int), (k : Int)) ∧ τ = (⟨[(0, .arr rb 0 ls.length cap), (3, .int .i64 (ls.take k).flatten.length), (9, .arr rb 0 ls.length cap), (10, .int .i64 ls.length), (11, .int .i64 k)], [], s.set rb (.cells cs)⟩ : St)) ⟨0, Nat.zero_le _, rfl, rfl⟩ ?_ ⟨_, sum_all ls (by omega), trivial⟩
  rintro J q τ ⟨k, hk, rfl, rfl⟩ hb
  unfold sumB at hb
  by_cases h : k < ls.length
  · have h1 : decide ((k : Int) < ls.length) = true := by simpa using h
    have h2 : ix ls (k : Int) = ls[k] := by unfold ix; simp [h]
    obtain ⟨r1, r2⟩ := row1 ls sp (j := (k : Int)) (by omega) (by omega)
    rw [hcs, h2, Int.toNat_natCast] at r2
    rw [hcs, Int.toNat_natCast] at r1
    have d1 := decide_eq_true r1
    have le := take_flat_le ls (k + 1)
    rw [List.take_succ_eq_append_getElem h, List.flatten_append, List.length_append, List.flatten_cons, List.flatten_nil, List.append_nil] at le
    have w1 : w64 (((ls.take k).flatten.length : Int) + (ls[k].length : Int)) = ((ls.take k).flatten.length : Int) + (ls[k].length : Int) := w64_id (by omega) (by omega)
    have w2 : w64 ((k : Int) + 1) = (k : Int) + 1 := w64_id (by omega) (by omega)
    have h0 : decide (((ls.take k).flatten.length : Int) + (ls[k].length : Int) < 0) = false := decide_eq_false (by omega)
    simp only [h1, cond_true, h2, ok_some, caseS_l] at hb
    simp -implicitDefEqProofs only [go_sem, start, startE, resVs, resV, resC, allV, retK, Nat.reduceBEq, Nat.reduceAdd, Nat.reduceMul, Nat.reduceLeDiff, Nat.reduceEqDiff, Nat.reduceBNe, Nat.ble_eq, UInt8.reduceToNat, UInt32.reduceToNat, h1, r2, d1, w1, w2, h0, Bool.true_eq_false, Bool.false_eq_true, false_implies, true_implies, true_and, and_true]
    have fin := hb _ ⟨k + 1, h, by rw [List.take_succ_eq_append_getElem h, List.flatten_append, List.length_append]; simp, rfl⟩
    rw [List.take_succ_eq_append_getElem h, List.flatten_append, List.length_append, List.flatten_cons, List.flatten_nil, List.append_nil] at fin
    have e1 : (((ls.take k).flatten.length + ls[k].length : Nat) : Int) = ((ls.take k).flatten.length : Int) + (ls[k].length : Int) := by omega
    have e2 : ((k + 1 : Nat) : Int) = (k : Int) + 1 := by omega
    rw [e1, e2] at fin
    first | exact fin | (refine ⟨?_, ?_, fin⟩ <;> omega) | (refine ⟨?_, fin⟩; omega) | (refine ⟨⟨?_, ?_⟩, ?_, fin⟩ <;> omega) | trace_state
  · have h1 : decide ((k : Int) < ls.length) = false := by simpa using h
    obtain rfl : k = ls.length := by omega
    clear hb
    rw [List.take_length]
    simp -implicitDefEqProofs only [go_sem, start, startE, resVs, resV, resC, allV, retK, Nat.reduceBEq, Nat.reduceAdd, Nat.reduceMul, Nat.reduceLeDiff, Nat.reduceEqDiff, Nat.reduceBNe, Nat.ble_eq, UInt8.reduceToNat, UInt32.reduceToNat, h1, Bool.true_eq_false, Bool.false_eq_true, false_implies, true_implies, true_and, and_true]
    refine grow_fn hr fun s1 r1 hs1 h1' => ?_
    simp -implicitDefEqProofs only [go_sem, start, startE, resVs, resV, resC, allV, retK, Nat.reduceBEq, Nat.reduceAdd, Nat.reduceMul, Nat.reduceLeDiff, Nat.reduceEqDiff, Nat.reduceBNe, Nat.ble_eq, UInt8.reduceToNat, UInt32.reduceToNat]
    have hq2 : (s.set rb (.cells cs)) rb = some (.cells cs) := set_at
    refine iter_toR (kf := fun _ => True) (fun (q : List api_Value × Int) τ => ∃ (k : Nat) (s' : Store) (r' : RowP), k ≤ ls.length ∧ q = ((ls.take k).flatten, (k : Int)) ∧ Sub (s.set rb (.cells cs)) s' ∧ RowOK s' r' (ls.take k).flatten ∧ τ = (⟨[(6, rowA r' (ls.take k).flatten.length), (25, .arr rb 0 ls.length cap), (26, .int .i64 ls.length), (27, .int .i64 k)], [], rowS s' r' (ls.take k).flatten⟩ : St)) ⟨0, s1, r1, Nat.zero_le _, rfl, hs1, h1', rfl⟩ ?_ ⟨_, cat_all ls (by omega), trivial⟩
    · rintro J q τ ⟨k, s', r', hk, rfl, hs', h', rfl⟩ hb
      unfold catB at hb
      by_cases h : k < ls.length
      · have h1 : decide ((k : Int) < ls.length) = true := by simpa using h
        have h2 : ix ls (k : Int) = ls[k] := by unfold ix; simp [h]
        obtain ⟨r1, r2⟩ := row1 ls sp (j := (k : Int)) (by omega) (by omega)
        rw [hcs, h2, Int.toNat_natCast] at r2
        rw [hcs, Int.toNat_natCast] at r1
        have d1 := decide_eq_true r1
        have hrb : rowS s' r' (ls.take k).flatten rb = some (.cells cs) := rowS_get h' (hs' _ _ hq2)
        have w2 : w64 ((k : Int) + 1) = (k : Int) + 1 := w64_id (by omega) (by omega)
        have le := take_flat_le ls (k + 1)
        have ek : ls.take (k + 1) = ls.take k ++ [ls[k]] := List.take_succ_eq_append_getElem h
        have ef : (ls.take (k + 1)).flatten = (ls.take k).flatten ++ ls[k] := by rw [ek, List.flatten_append]; simp
        rw [ef, List.length_append] at le
        simp only [h1, cond_true, h2, ok_some, caseS_l] at hb
        generalize hst : rowS s' r' (ls.take k).flatten = st at hrb ⊢
        simp -implicitDefEqProofs only [go_sem, start, startE, resVs, resV, resC, allV, retK, Nat.reduceBEq, Nat.reduceAdd, Nat.reduceMul, Nat.reduceLeDiff, Nat.reduceEqDiff, Nat.reduceBNe, Nat.ble_eq, UInt8.reduceToNat, UInt32.reduceToNat, h1, hrb, r2, d1, w2, Bool.true_eq_false, Bool.false_eq_true, false_implies, true_implies, true_and, and_true]
        first
          | refine ⟨⟨by omega, by omega⟩, r1, ?_⟩
          | refine ⟨by omega, ?_⟩
          | skip
        rw [srcV_sl, flat_views]
        refine app_rows (by' := 56) (s := s') (r := r') (l := (ls.take k).flatten) (x := ls[k]) (z := (⟨0, 0, ⟨[]⟩, []⟩ : api_Value)) (by exact hst.symm) h' rfl (hpos _ (List.getElem_mem h)) (by omega) fun s2 r2' hs2 h2' => ?_
        simp -implicitDefEqProofs only [go_sem, start, startE, resVs, resV, resC, allV, retK, Nat.reduceBEq, Nat.reduceAdd, Nat.reduceMul, Nat.reduceLeDiff, Nat.reduceEqDiff, Nat.reduceBNe, Nat.ble_eq, UInt8.reduceToNat, UInt32.reduceToNat, w2]
        have fin := hb _ ⟨k + 1, s2, r2', h, by rw [ef]; rfl, (fun b o hb => hs2 b o (hs' b o hb)), by rw [ef]; exact h2', rfl⟩
        rw [ef, List.length_append] at fin
        have e2 : ((k + 1 : Nat) : Int) = (k : Int) + 1 := by omega
        rw [e2] at fin
        exact fin
      · have h1 : decide ((k : Int) < ls.length) = false := by simpa using h
        obtain rfl : k = ls.length := by omega
        clear hb
        rw [List.take_length] at h' ⊢
        simp -implicitDefEqProofs only [go_sem, start, startE, resVs, resV, resC, allV, retK, Nat.reduceBEq, Nat.reduceAdd, Nat.reduceMul, Nat.reduceLeDiff, Nat.reduceEqDiff, Nat.reduceBNe, Nat.ble_eq, UInt8.reduceToNat, UInt32.reduceToNat, h1, Bool.true_eq_false, Bool.false_eq_true, false_implies, true_implies, true_and, and_true]
        first | exact hq s' r' hs' h' | trace_state
theorem once_unit : iter (fun _ : Unit => (some (.inr ()) : Option (Unit ⊕ Unit))) () = some () := iter_upto 0 (fun _ => ()) rfl (by decide) (fun k hk => by omega) rfl
theorem stab_fn {s : Store} {rb cap : Nat} {sp : List AV} {l : List VL} {Q : List AV → Store → Prop} (hs : s rb = none) (hl : l.length < 20)
  (hm : ok (insM l 0 l.length) fun l' => Q [] (s.set rb (.cells (flat l' ++ sp)))) : FN Go.Proofs.Tryz.prog 247 [.arr rb 0 l.length cap, .int .i64 l.length, .fn 211 [] []] (s.set rb (.cells (flat l ++ sp))) Q := by
 have hroom : room = 140737488355328 := rfl
 refine FN.of (draw_ok mix) is_stab rfl (Nat.le_of_ble_eq_true rfl) ?_
 rw [ir_stab, res_stab]
 have h1 : decide ((20 : Int) ≤ l.length) = false := decide_eq_false (by omega)
 have h2 : decide ((20 : Int) < l.length) = false := decide_eq_false (by omega)
 simp -implicitDefEqProofs only [go_sem, start, startE, resVs, resV, resC, allV, retK, Nat.reduceBEq, Nat.reduceAdd, Nat.reduceMul, Nat.reduceLeDiff, Nat.reduceEqDiff, Nat.reduceBNe, Nat.ble_eq, UInt8.reduceToNat, UInt32.reduceToNat]
 refine iter_to (fun (_ : Unit) => (⟨[(0, .arr rb 0 l.length cap), (1, .int .i64 l.length), (2, .fn 211 [] []), (6, .int .i64 20), (7, .int .i64 0), (8, .int .i64 20)], [], s.set rb (.cells (flat l ++ sp))⟩ : St)) rfl ?_ (⟨_, once_unit, trivial⟩ : ok _ fun _ => True)
 intro J _ hb
 clear hb
 simp -implicitDefEqProofs only [go_sem, start, startE, resVs, resV, resC, allV, retK, Nat.reduceBEq, Nat.reduceAdd, Nat.reduceMul, Nat.reduceLeDiff, Nat.reduceEqDiff, Nat.reduceBNe, Nat.ble_eq, UInt8.reduceToNat, UInt32.reduceToNat, h1, Bool.true_eq_false, Bool.false_eq_true, false_implies, true_implies, true_and, and_true]
 refine ins_fn hs ⟨by decide, by decide⟩ (by omega) (ok_mono hm fun l' h' => ?_)
 simp -implicitDefEqProofs only [go_sem, start, startE, resVs, resV, resC, allV, retK, Nat.reduceBEq, Nat.reduceAdd, Nat.reduceMul, Nat.reduceLeDiff, Nat.reduceEqDiff, Nat.reduceBNe, Nat.ble_eq, UInt8.reduceToNat, UInt32.reduceToNat]
 refine iter_to (fun (_ : Unit) => (⟨[(0, .arr rb 0 l.length cap), (1, .int .i64 l.length), (2, .fn 211 [] []), (6, .int .i64 20)], [], s.set rb (.cells (flat l' ++ sp))⟩ : St)) rfl ?_ (⟨_, once_unit, trivial⟩ : ok _ fun _ => True)
 intro J _ hb
 clear hb
 simp -implicitDefEqProofs only [go_sem, start, startE, resVs, resV, resC, allV, retK, Nat.reduceBEq, Nat.reduceAdd, Nat.reduceMul, Nat.reduceLeDiff, Nat.reduceEqDiff, Nat.reduceBNe, Nat.ble_eq, UInt8.reduceToNat, UInt32.reduceToNat, h2, Bool.true_eq_false, Bool.false_eq_true, false_implies, true_implies, true_and, and_true]
 exact h'
theorem sortSt_fn {s : Store} {rb cap : Nat} {sp : List AV} {l : List VL} {Q : List AV → Store → Prop} (hs : s rb = none) (hl : l.length < 20)
  (hm : ok (insM l 0 l.length) fun l' => Q [] (s.set rb (.cells (flat l' ++ sp)))) : FN Go.Proofs.Tryz.prog 210 [.arr rb 0 l.length cap, .fn 211 [] []] (s.set rb (.cells (flat l ++ sp))) Q := by
 refine FN.of (draw_ok mix) is_sortSt rfl (Nat.le_of_ble_eq_true rfl) ?_
 rw [ir_sortSt, res_sortSt]
 simp -implicitDefEqProofs only [go_sem, start, startE, resVs, resV, resC, allV, retK, Nat.reduceBEq, Nat.reduceAdd, Nat.reduceMul, Nat.reduceLeDiff, Nat.reduceEqDiff, Nat.reduceBNe, Nat.ble_eq, UInt8.reduceToNat, UInt32.reduceToNat]
 refine stab_fn hs hl (ok_mono hm fun l' h' => ?_)
 simp -implicitDefEqProofs only [go_sem, start, startE, resVs, resV, resC, allV, retK, Nat.reduceBEq, Nat.reduceAdd, Nat.reduceMul, Nat.reduceLeDiff, Nat.reduceEqDiff, Nat.reduceBNe, Nat.ble_eq, UInt8.reduceToNat, UInt32.reduceToNat]
 exact h'
end Go.AB
end

section
set_option maxRecDepth 4000
namespace Go.AB
open Go
attribute [-go_sem] xwp_cons xwpK_eq xalt_cons xalt_nil
def parse_Word_1 (t_0 : lex_Token) (c_1 : Str) : Option (Bool) :=
 some ((t_0.Kind == 6) && (t_0.S.b == c_1.b))
def ir_parse_Word_1 : IC :=
 (.seq (.reg none [i1 2 (.boxL 8 (.t 0)),
 mkk 3 (.bool false)] [1, 2])
 (.seq (.reg none [fa 4 0 2,
 ld 5 1 4,
 bn 6 .eql 5 6,
 mv 7 6,
 fg 8 7 true 7 2,
 lg 9 7 true 1 8,
 i1g 10 7 true (.loadR [.str []] false (.t 1)),
 i1g 11 7 true (.bin .eql (.t 9) (.t 10)),
 pf 12 7 11,
 mv 3 12] [3])
 .ret))
def res_parse_Word_1 : List IRes := [⟨3, true, none⟩]
theorem is_parse_Word_1 : fnIs Go.Proofs.Tryz.prog 94 13 res_parse_Word_1 ir_parse_Word_1 = true := by kernel_rfl
theorem parse_Word_1_fn {t_0 c_1} {B1 : Nat} {s : Store} {Q : List AV → Store → Prop} (hB1 : s B1 = some (.cells [.str c_1.b])) : ok (parse_Word_1 t_0 c_1) (fun r => Q [.bool r] s) → FN Go.Proofs.Tryz.prog 94 [.agg [.int .i64 t_0.Kind, .int .i64 t_0.From, .int .i64 t_0.To, .int .i64 t_0.V.Kind, .int .i64 t_0.V.N, .str t_0.V.S.b, .sl false 4 t_0.V.L.length (flat t_0.V.L), .str t_0.S.b], .ref B1 0] s Q := by
 have hS : s = (s.set B1 (.cells [.str c_1.b])) := by simp only [set_eq' hB1]
 rw [hS]
 intro h
 refine FN.of (draw_ok mix) is_parse_Word_1 rfl (Nat.le_of_ble_eq_true rfl) ?_
 revert h
 rw [ir_parse_Word_1, res_parse_Word_1, parse_Word_1]
 repeat' (first
  | simp -implicitDefEqProofs only [go_sem, seval])
theorem parse_Word_1_fe {t_0 c_1} {B1 : Nat} {s : Store} {r : Bool} (hB1 : s B1 = some (.cells [.str c_1.b])) (h : parse_Word_1 t_0 c_1 = some r) : FE Go.Proofs.Tryz.prog 94 [.agg [.int .i64 t_0.Kind, .int .i64 t_0.From, .int .i64 t_0.To, .int .i64 t_0.V.Kind, .int .i64 t_0.V.N, .str t_0.V.S.b, .sl false 4 t_0.V.L.length (flat t_0.V.L), .str t_0.S.b], .ref B1 0] s [.bool r] s := parse_Word_1_fn hB1 ⟨r, h, rfl, rfl⟩
def parse_oneW (b_0 : (List UInt8)) (at_1 : Int) (last_2 : Bool) (c3_0 : Str) : Option (lex_Token × Int) :=
 bnd (lex_Next b_0 at_1 last_2) fun r1 =>
 if r1.2 != 0 then
  some ((lex_Token.mk 0 0 0 (api_Value.mk 0 0 (Str.mk []) ([] : List api_Value)) (Str.mk [])), r1.2)
 else
  if r1.1.Kind == 0 then
   some ((lex_Token.mk 0 0 0 (api_Value.mk 0 0 (Str.mk []) ([] : List api_Value)) (Str.mk [])), 10)
  else
   bnd (parse_Word_1 r1.1 c3_0) fun r2 =>
   if !r2 then
    some ((lex_Token.mk 0 0 0 (api_Value.mk 0 0 (Str.mk []) ([] : List api_Value)) (Str.mk [])), 11)
   else
    some (r1.1, 0)
theorem fnok_94 : (fnOK Go.Proofs.Tryz.prog 94 = true) = True := eq_true (by kernel_rfl)
def ir_parse_oneW : IC :=
 (.seq (.reg none [i1 8 (.allocL [.int .i64 0, .int .i64 0, .int .i64 0, .int .i64 0, .int .i64 0, .str [], .sl true 4 0 [], .str []]),
 mi 9 0] [0, 1, 2, 3, 8])
 (.seq (.reg none [mt 13 0,
 mv 14 1,
 mv 15 2,
 c3 16 58 13 14 15,
 i1 12 (.movT (.t 16)),
 ex 17 12 0,
 ex 18 12 1,
 i1 10 (.allocL [.int .i64 0, .int .i64 0, .int .i64 0, .int .i64 0, .int .i64 0, .str [], .sl true 4 0 [], .str []]),
 st 8 10 17,
 mv 11 18] [3, 8, 10, 11])
 (.seq (.block 0 (.seq (.reg none [mv 20 11,
 bn 21 .neq 20 0,
 mv 19 21] [3, 8, 10, 11, 19])
 (.cond (.t 19) (.seq (.reg none [i1 22 (.build [.int .i64 0, .int .i64 0, .int .i64 0, .int .i64 0, .int .i64 0, .str [], .sl true 4 0 [], .str []] []),
 mv 23 11,
 st 8 8 22,
 mv 9 23] [8, 9])
 .ret)
 (.seq (.reg none [fa 25 0 10,
 ld 26 1 25,
 bn 27 .eql 26 0,
 mv 24 27] [3, 8, 10, 24])
 (.cond (.t 24) (.seq (.reg none [i1 28 (.build [.int .i64 0, .int .i64 0, .int .i64 0, .int .i64 0, .int .i64 0, .str [], .sl true 4 0 [], .str []] []),
 st 8 8 28,
 mi 9 10] [8, 9])
 .ret)
 (.seq (.reg none [mv 30 3,
 lm 31 8 10,
 i1 32 (.callv (.t 30) [(.t 31)]),
 no 33 32,
 mv 29 33] [8, 10, 29])
 (.cond (.t 29) (.seq (.reg none [i1 34 (.build [.int .i64 0, .int .i64 0, .int .i64 0, .int .i64 0, .int .i64 0, .str [], .sl true 4 0 [], .str []] []),
 st 8 8 34,
 mi 9 11] [8, 9])
 .ret)
 .skip)))))))
 (.seq (.reg none [lm 35 8 10,
 st 8 8 35,
 mi 9 0] [8, 9])
 .ret))))
def res_parse_oneW : List IRes := [⟨8, false, some (8, true)⟩, ⟨9, true, none⟩]
theorem is_parse_oneW : fnIs Go.Proofs.Tryz.prog 92 36 res_parse_oneW ir_parse_oneW = true := by kernel_rfl
theorem parse_oneW_fn {b_0 at_1 last_2 c3_0} {B3_0 : Nat} {s : Store} {Q : List AV → Store → Prop} (hB3_0 : s B3_0 = some (.cells [.str c3_0.b])) : ok (parse_oneW b_0 at_1 last_2 c3_0) (fun r => Q [.agg [.int .i64 r.1.Kind, .int .i64 r.1.From, .int .i64 r.1.To, .int .i64 r.1.V.Kind, .int .i64 r.1.V.N, .str r.1.V.S.b, .sl false 4 r.1.V.L.length (flat r.1.V.L), .str r.1.S.b], .int .i64 r.2] s) → FN Go.Proofs.Tryz.prog 92 [.sl false 1 b_0.length (flat b_0), .int .i64 at_1, .bool last_2, .fn 94 [] [.ref B3_0 0]] s Q := by
 have hS : s = (s.set B3_0 (.cells [.str c3_0.b])) := by simp only [set_eq' hB3_0]
 rw [hS]
 intro h
 refine FN.of (draw_ok mix) is_parse_oneW rfl (Nat.le_of_ble_eq_true rfl) ?_
 revert h
 rw [ir_parse_oneW, res_parse_oneW, parse_oneW]
 repeat' (first
  | with_reducible exact tt_to
  | with_reducible refine and_to ?_ ?_
  | with_reducible refine im_to ?_
  | with_reducible refine call_to (fun _ (h : lex_Next b_0 at_1 last_2 = some _) => lex_Next_fe h) (fun r1 => ?_)
  | with_reducible refine call_to (fun _ (h : parse_Word_1 r1.1 c3_0 = some _) => parse_Word_1_fe (B1 := B3_0) (by simp -implicitDefEqProofs only [go_sem, seval, fnok_94] <;> simp only [encM_nil])   h) (fun r2 => ?_)
  | simp -implicitDefEqProofs only [go_sem, seval, fnok_94])
theorem parse_oneW_fe {b_0 at_1 last_2 c3_0} {B3_0 : Nat} {s : Store} {r : lex_Token × Int} (hB3_0 : s B3_0 = some (.cells [.str c3_0.b])) (h : parse_oneW b_0 at_1 last_2 c3_0 = some r) : FE Go.Proofs.Tryz.prog 92 [.sl false 1 b_0.length (flat b_0), .int .i64 at_1, .bool last_2, .fn 94 [] [.ref B3_0 0]] s [.agg [.int .i64 r.1.Kind, .int .i64 r.1.From, .int .i64 r.1.To, .int .i64 r.1.V.Kind, .int .i64 r.1.V.N, .str r.1.V.S.b, .sl false 4 r.1.V.L.length (flat r.1.V.L), .str r.1.S.b], .int .i64 r.2] s := parse_oneW_fn hB3_0 ⟨r, h, rfl, rfl⟩
def parse_Word (b_0 : (List UInt8)) (at_1 : Int) (last_2 : Bool) (word_3 : Str) : Option (Int × Int) :=
 bnd (parse_oneW b_0 at_1 last_2 word_3) fun r1 =>
 some (r1.1.To, r1.2)
def ir_parse_Word : IC :=
 (.seq (.reg none [i1 7 (.boxS 1 (.t 3)),
 mi 8 0,
 mi 9 0] [0, 1, 2, 7])
 (.seq (.reg none [mt 13 0,
 mv 14 1,
 mv 15 2,
 i1 16 (.makeFn 94 [] [(.t 7)]),
 i1 17 (.call 92 [(.t 13), (.t 14), (.t 15), (.t 16)]),
 i1 12 (.movT (.t 17)),
 ex 18 12 0,
 ex 19 12 1,
 i1 10 (.allocL [.int .i64 0, .int .i64 0, .int .i64 0, .int .i64 0, .int .i64 0, .str [], .sl true 4 0 [], .str []]),
 st 8 10 18,
 mv 11 19] [10, 11])
 (.seq (.reg none [fa 20 2 10,
 ld 21 1 20,
 mv 22 11,
 mv 8 21,
 mv 9 22] [8, 9])
 .ret)))
def res_parse_Word : List IRes := [⟨8, true, none⟩, ⟨9, true, none⟩]
theorem is_parse_Word : fnIs Go.Proofs.Tryz.prog 56 23 res_parse_Word ir_parse_Word = true := by kernel_rfl
theorem parse_Word_fn {b_0 at_1 last_2 word_3} {s : Store} {Q : List AV → Store → Prop}  : ok (parse_Word b_0 at_1 last_2 word_3) (fun r => Q [.int .i64 r.1, .int .i64 r.2] s) → FN Go.Proofs.Tryz.prog 56 [.sl false 1 b_0.length (flat b_0), .int .i64 at_1, .bool last_2, .str word_3.b] s Q := by
 intro h
 refine FN.forget ?_
 refine FN.of (draw_ok mix) is_parse_Word rfl (Nat.le_of_ble_eq_true rfl) ?_
 revert h
 rw [ir_parse_Word, res_parse_Word, parse_Word]
 repeat' (first
  | with_reducible refine call_to (fun _ (h : parse_oneW b_0 at_1 last_2 word_3 = some _) => parse_oneW_fe (B3_0 := N1) (by simp -implicitDefEqProofs only [go_sem, seval] <;> simp only [encM_nil])   h) (fun r1 => ?_)
  | ((fail_if_success (have _x := sN1)); with_reducible intro hh N1 hN1; (try simp only [set_none] at hN1); have sN1 := hN1; revert hh)
  | with_reducible exact fun hh => ⟨_, SubS.set (SubS.refl _) (by simp [Store.set, sN1]), hh⟩
  | simp -implicitDefEqProofs only [go_sem, seval])
theorem parse_Word_fe {b_0 at_1 last_2 word_3} {s : Store} {r : Int × Int}  (h : parse_Word b_0 at_1 last_2 word_3 = some r) : FE Go.Proofs.Tryz.prog 56 [.sl false 1 b_0.length (flat b_0), .int .i64 at_1, .bool last_2, .str word_3.b] s [.int .i64 r.1, .int .i64 r.2] s := parse_Word_fn  ⟨r, h, rfl, rfl⟩
end Go.AB
end

section
set_option maxRecDepth 4000
namespace Go.AB
open Go
attribute [-go_sem] xwp_cons xwpK_eq xalt_cons xalt_nil
def parse_wholeW (t_0 : lex_Token) : Option (Bool) :=
 some ((t_0.Kind == 1) && (t_0.V.Kind == 2))
def ir_parse_wholeW : IC :=
 (.seq (.reg none [i1 1 (.boxL 8 (.t 0)),
 mkk 2 (.bool false)] [1])
 (.seq (.reg none [fa 3 0 1,
 ld 4 1 3,
 bn 5 .eql 4 1,
 mv 6 5,
 fg 7 6 true 3 1,
 fg 8 6 true 0 7,
 lg 9 6 true 1 8,
 i1g 10 6 true (.bin .eql (.t 9) (.c (.int .i64 2))),
 pf 11 6 10,
 mv 2 11] [2])
 .ret))
def res_parse_wholeW : List IRes := [⟨2, true, none⟩]
theorem is_parse_wholeW : fnIs Go.Proofs.Tryz.prog 93 12 res_parse_wholeW ir_parse_wholeW = true := by kernel_rfl
theorem parse_wholeW_fn {t_0} {s : Store} {Q : List AV → Store → Prop}  : ok (parse_wholeW t_0) (fun r => Q [.bool r] s) → FN Go.Proofs.Tryz.prog 93 [.agg [.int .i64 t_0.Kind, .int .i64 t_0.From, .int .i64 t_0.To, .int .i64 t_0.V.Kind, .int .i64 t_0.V.N, .str t_0.V.S.b, .sl false 4 t_0.V.L.length (flat t_0.V.L), .str t_0.S.b]] s Q := by
 intro h
 refine FN.of (draw_ok mix) is_parse_wholeW rfl (Nat.le_of_ble_eq_true rfl) ?_
 revert h
 rw [ir_parse_wholeW, res_parse_wholeW, parse_wholeW]
 repeat' (first
  | simp -implicitDefEqProofs only [go_sem, seval])
theorem parse_wholeW_fe {t_0} {s : Store} {r : Bool}  (h : parse_wholeW t_0 = some r) : FE Go.Proofs.Tryz.prog 93 [.agg [.int .i64 t_0.Kind, .int .i64 t_0.From, .int .i64 t_0.To, .int .i64 t_0.V.Kind, .int .i64 t_0.V.N, .str t_0.V.S.b, .sl false 4 t_0.V.L.length (flat t_0.V.L), .str t_0.S.b]] s [.bool r] s := parse_wholeW_fn  ⟨r, h, rfl, rfl⟩
def parse_oneWW (b_0 : (List UInt8)) (at_1 : Int) (last_2 : Bool) : Option (lex_Token × Int) :=
 bnd (lex_Next b_0 at_1 last_2) fun r1 =>
 if r1.2 != 0 then
  some ((lex_Token.mk 0 0 0 (api_Value.mk 0 0 (Str.mk []) ([] : List api_Value)) (Str.mk [])), r1.2)
 else
  if r1.1.Kind == 0 then
   some ((lex_Token.mk 0 0 0 (api_Value.mk 0 0 (Str.mk []) ([] : List api_Value)) (Str.mk [])), 10)
  else
   bnd (parse_wholeW r1.1) fun r2 =>
   if !r2 then
    some ((lex_Token.mk 0 0 0 (api_Value.mk 0 0 (Str.mk []) ([] : List api_Value)) (Str.mk [])), 11)
   else
    some (r1.1, 0)
theorem fnok_93 : (fnOK Go.Proofs.Tryz.prog 93 = true) = True := eq_true (by kernel_rfl)
def ir_parse_oneWW : IC :=
 (.seq (.reg none [i1 8 (.allocL [.int .i64 0, .int .i64 0, .int .i64 0, .int .i64 0, .int .i64 0, .str [], .sl true 4 0 [], .str []]),
 mi 9 0] [0, 1, 2, 3, 8])
 (.seq (.reg none [mt 13 0,
 mv 14 1,
 mv 15 2,
 c3 16 58 13 14 15,
 i1 12 (.movT (.t 16)),
 ex 17 12 0,
 ex 18 12 1,
 i1 10 (.allocL [.int .i64 0, .int .i64 0, .int .i64 0, .int .i64 0, .int .i64 0, .str [], .sl true 4 0 [], .str []]),
 st 8 10 17,
 mv 11 18] [3, 8, 10, 11])
 (.seq (.block 0 (.seq (.reg none [mv 20 11,
 bn 21 .neq 20 0,
 mv 19 21] [3, 8, 10, 11, 19])
 (.cond (.t 19) (.seq (.reg none [i1 22 (.build [.int .i64 0, .int .i64 0, .int .i64 0, .int .i64 0, .int .i64 0, .str [], .sl true 4 0 [], .str []] []),
 mv 23 11,
 st 8 8 22,
 mv 9 23] [8, 9])
 .ret)
 (.seq (.reg none [fa 25 0 10,
 ld 26 1 25,
 bn 27 .eql 26 0,
 mv 24 27] [3, 8, 10, 24])
 (.cond (.t 24) (.seq (.reg none [i1 28 (.build [.int .i64 0, .int .i64 0, .int .i64 0, .int .i64 0, .int .i64 0, .str [], .sl true 4 0 [], .str []] []),
 st 8 8 28,
 mi 9 10] [8, 9])
 .ret)
 (.seq (.reg none [mv 30 3,
 lm 31 8 10,
 i1 32 (.callv (.t 30) [(.t 31)]),
 no 33 32,
 mv 29 33] [8, 10, 29])
 (.cond (.t 29) (.seq (.reg none [i1 34 (.build [.int .i64 0, .int .i64 0, .int .i64 0, .int .i64 0, .int .i64 0, .str [], .sl true 4 0 [], .str []] []),
 st 8 8 34,
 mi 9 11] [8, 9])
 .ret)
 .skip)))))))
 (.seq (.reg none [lm 35 8 10,
 st 8 8 35,
 mi 9 0] [8, 9])
 .ret))))
def res_parse_oneWW : List IRes := [⟨8, false, some (8, true)⟩, ⟨9, true, none⟩]
theorem is_parse_oneWW : fnIs Go.Proofs.Tryz.prog 92 36 res_parse_oneWW ir_parse_oneWW = true := by kernel_rfl
theorem parse_oneWW_fn {b_0 at_1 last_2} {s : Store} {Q : List AV → Store → Prop}  : ok (parse_oneWW b_0 at_1 last_2) (fun r => Q [.agg [.int .i64 r.1.Kind, .int .i64 r.1.From, .int .i64 r.1.To, .int .i64 r.1.V.Kind, .int .i64 r.1.V.N, .str r.1.V.S.b, .sl false 4 r.1.V.L.length (flat r.1.V.L), .str r.1.S.b], .int .i64 r.2] s) → FN Go.Proofs.Tryz.prog 92 [.sl false 1 b_0.length (flat b_0), .int .i64 at_1, .bool last_2, .fn 93 [] []] s Q := by
 intro h
 refine FN.of (draw_ok mix) is_parse_oneWW rfl (Nat.le_of_ble_eq_true rfl) ?_
 revert h
 rw [ir_parse_oneWW, res_parse_oneWW, parse_oneWW]
 repeat' (first
  | with_reducible exact tt_to
  | with_reducible refine and_to ?_ ?_
  | with_reducible refine im_to ?_
  | with_reducible refine call_to (fun _ (h : lex_Next b_0 at_1 last_2 = some _) => lex_Next_fe h) (fun r1 => ?_)
  | with_reducible refine call_to (fun _ (h : parse_wholeW r1.1 = some _) => parse_wholeW_fe h) (fun r2 => ?_)
  | simp -implicitDefEqProofs only [go_sem, seval, fnok_93])
theorem parse_oneWW_fe {b_0 at_1 last_2} {s : Store} {r : lex_Token × Int}  (h : parse_oneWW b_0 at_1 last_2 = some r) : FE Go.Proofs.Tryz.prog 92 [.sl false 1 b_0.length (flat b_0), .int .i64 at_1, .bool last_2, .fn 93 [] []] s [.agg [.int .i64 r.1.Kind, .int .i64 r.1.From, .int .i64 r.1.To, .int .i64 r.1.V.Kind, .int .i64 r.1.V.N, .str r.1.V.S.b, .sl false 4 r.1.V.L.length (flat r.1.V.L), .str r.1.S.b], .int .i64 r.2] s := parse_oneWW_fn  ⟨r, h, rfl, rfl⟩
def parse_Number (b_0 : (List UInt8)) (at_1 : Int) (last_2 : Bool) : Option (Int × Int × Int) :=
 bnd (parse_oneWW b_0 at_1 last_2) fun r1 =>
 some (r1.1.V.N, r1.1.To, r1.2)
def ir_parse_Number : IC :=
 (.seq (.reg none [mi 6 0,
 mi 7 0,
 mi 8 0] [0, 1, 2])
 (.seq (.reg none [mt 12 0,
 mv 13 1,
 mv 14 2,
 i1 15 (.call 92 [(.t 12), (.t 13), (.t 14), (.c (.fn 93 [] []))]),
 i1 11 (.movT (.t 15)),
 ex 16 11 0,
 ex 17 11 1,
 i1 9 (.allocL [.int .i64 0, .int .i64 0, .int .i64 0, .int .i64 0, .int .i64 0, .str [], .sl true 4 0 [], .str []]),
 st 8 9 16,
 mv 10 17] [9, 10])
 (.seq (.reg (some 9) [fa 18 3 9,
 fa 19 1 18,
 ld 20 1 19,
 fa 21 2 9,
 ld 22 1 21,
 mv 23 10,
 mv 6 20,
 mv 7 22,
 mv 8 23] [6, 7, 8])
 .ret)))
def res_parse_Number : List IRes := [⟨6, true, none⟩, ⟨7, true, none⟩, ⟨8, true, none⟩]
theorem is_parse_Number : fnIs Go.Proofs.Tryz.prog 55 24 res_parse_Number ir_parse_Number = true := by kernel_rfl
theorem parse_Number_fn {b_0 at_1 last_2} {s : Store} {Q : List AV → Store → Prop}  : ok (parse_Number b_0 at_1 last_2) (fun r => Q [.int .i64 r.1, .int .i64 r.2.1, .int .i64 r.2.2] s) → FN Go.Proofs.Tryz.prog 55 [.sl false 1 b_0.length (flat b_0), .int .i64 at_1, .bool last_2] s Q := by
 intro h
 refine FN.of (draw_ok mix) is_parse_Number rfl (Nat.le_of_ble_eq_true rfl) ?_
 revert h
 rw [ir_parse_Number, res_parse_Number, parse_Number]
 repeat' (first
  | with_reducible refine call_to (fun _ (h : parse_oneWW b_0 at_1 last_2 = some _) => parse_oneWW_fe h) (fun r1 => ?_)
  | simp -implicitDefEqProofs only [go_sem, seval])
theorem parse_Number_fe {b_0 at_1 last_2} {s : Store} {r : Int × Int × Int}  (h : parse_Number b_0 at_1 last_2 = some r) : FE Go.Proofs.Tryz.prog 55 [.sl false 1 b_0.length (flat b_0), .int .i64 at_1, .bool last_2] s [.int .i64 r.1, .int .i64 r.2.1, .int .i64 r.2.2] s := parse_Number_fn  ⟨r, h, rfl, rfl⟩
end Go.AB
end
