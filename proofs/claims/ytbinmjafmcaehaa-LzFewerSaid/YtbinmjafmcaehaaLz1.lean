/- A part of the proof: Lz1. -/
import Derived.Test.YtbinmjafmcaehaaMix
set_option linter.unusedSimpArgs false
set_option linter.unusedVariables false
namespace Go.AB
open Go
structure lz_Token where
  Byte : UInt8
  Length : Int
  Far : Int
  deriving DecidableEq
instance : Enc lz_Token := ⟨3, fun x => [.int .u8 x.Byte.toNat, .int .i64 x.Length, .int .i64 x.Far], (lz_Token.mk 0 0 0), by decide, fun _ => rfl, fun _ => rfl⟩
@[go_sem] theorem cells_lz_Token (x : lz_Token) : Enc.cells x = [.int .u8 x.Byte.toNat, .int .i64 x.Length, .int .i64 x.Far] := rfl
@[go_sem] theorem w_lz_Token : Enc.w lz_Token = 3 := rfl
@[go_sem] theorem pad_lz_Token (l : List lz_Token) (i : Int) : pad [.int .u8 0, .int .i64 0, .int .i64 0] (views (AB.sub (flat l) (i.toNat * 3) 3)) = [.int .u8 ((ix l i).Byte).toNat, .int .i64 ((ix l i).Length), .int .i64 ((ix l i).Far)] := by
  rw [← cells_lz_Token]; exact flat_pad _ 3 l i (by rw [cells_lz_Token]; rfl) rfl
@[go_sem] theorem mk_lz_Token (x : lz_Token) : lz_Token.mk x.Byte x.Length x.Far = x := by cases x; rfl

structure arr3_UInt8 where
  a0 : UInt8
  a1 : UInt8
  a2 : UInt8
  deriving DecidableEq
instance : Enc arr3_UInt8 := ⟨3, fun x => [.int .u8 x.a0.toNat, .int .u8 x.a1.toNat, .int .u8 x.a2.toNat], (arr3_UInt8.mk 0 0 0), by decide, fun _ => rfl, fun _ => rfl⟩
@[go_sem] theorem cells_arr3_UInt8 (x : arr3_UInt8) : Enc.cells x = [.int .u8 x.a0.toNat, .int .u8 x.a1.toNat, .int .u8 x.a2.toNat] := rfl
@[go_sem] theorem w_arr3_UInt8 : Enc.w arr3_UInt8 = 3 := rfl
@[go_sem] theorem pad_arr3_UInt8 (l : List arr3_UInt8) (i : Int) : pad [.int .u8 0, .int .u8 0, .int .u8 0] (views (AB.sub (flat l) (i.toNat * 3) 3)) = [.int .u8 ((ix l i).a0).toNat, .int .u8 ((ix l i).a1).toNat, .int .u8 ((ix l i).a2).toNat] := by
  rw [← cells_arr3_UInt8]; exact flat_pad _ 3 l i (by rw [cells_arr3_UInt8]; rfl) rfl
@[go_sem] theorem mk_arr3_UInt8 (x : arr3_UInt8) : arr3_UInt8.mk x.a0 x.a1 x.a2 = x := by cases x; rfl

structure lz_finder where
  b_ : (List UInt8)
  last_ : (List (arr3_UInt8 × Int))
  prev_ : (MSl Int)

structure ref06_Token where
  Byte : UInt8
  Length : Int
  Far : Int
  deriving DecidableEq
instance : Enc ref06_Token := ⟨3, fun x => [.int .u8 x.Byte.toNat, .int .i64 x.Length, .int .i64 x.Far], (ref06_Token.mk 0 0 0), by decide, fun _ => rfl, fun _ => rfl⟩
@[go_sem] theorem cells_ref06_Token (x : ref06_Token) : Enc.cells x = [.int .u8 x.Byte.toNat, .int .i64 x.Length, .int .i64 x.Far] := rfl
@[go_sem] theorem w_ref06_Token : Enc.w ref06_Token = 3 := rfl
@[go_sem] theorem pad_ref06_Token (l : List ref06_Token) (i : Int) : pad [.int .u8 0, .int .i64 0, .int .i64 0] (views (AB.sub (flat l) (i.toNat * 3) 3)) = [.int .u8 ((ix l i).Byte).toNat, .int .i64 ((ix l i).Length), .int .i64 ((ix l i).Far)] := by
  rw [← cells_ref06_Token]; exact flat_pad _ 3 l i (by rw [cells_ref06_Token]; rfl) rfl
@[go_sem] theorem mk_ref06_Token (x : ref06_Token) : ref06_Token.mk x.Byte x.Length x.Far = x := by cases x; rfl

structure arr3_Int where
  a0 : Int
  a1 : Int
  a2 : Int
  deriving DecidableEq
instance : Enc arr3_Int := ⟨3, fun x => [.int .i64 x.a0, .int .i64 x.a1, .int .i64 x.a2], (arr3_Int.mk 0 0 0), by decide, fun _ => rfl, fun _ => rfl⟩
@[go_sem] theorem cells_arr3_Int (x : arr3_Int) : Enc.cells x = [.int .i64 x.a0, .int .i64 x.a1, .int .i64 x.a2] := rfl
@[go_sem] theorem w_arr3_Int : Enc.w arr3_Int = 3 := rfl
@[go_sem] theorem pad_arr3_Int (l : List arr3_Int) (i : Int) : pad [.int .i64 0, .int .i64 0, .int .i64 0] (views (AB.sub (flat l) (i.toNat * 3) 3)) = [.int .i64 ((ix l i).a0), .int .i64 ((ix l i).a1), .int .i64 ((ix l i).a2)] := by
  rw [← cells_arr3_Int]; exact flat_pad _ 3 l i (by rw [cells_arr3_Int]; rfl) rfl
@[go_sem] theorem mk_arr3_Int (x : arr3_Int) : arr3_Int.mk x.a0 x.a1 x.a2 = x := by cases x; rfl

def ek_arr3_UInt8_Int (k : arr3_UInt8) : AV := .agg [.int .u8 k.a0.toNat, .int .u8 k.a1.toNat, .int .u8 k.a2.toNat]
def ev_arr3_UInt8_Int (v : Int) : AV := .int .i64 v
theorem eq_arr3_UInt8_Int (a b : arr3_UInt8) : keyIs (ek_arr3_UInt8_Int a) (ek_arr3_UInt8_Int b) = (a == b) := by
  rw [Bool.eq_iff_iff]
  cases a; cases b
  simp [ek_arr3_UInt8_Int, keyIs, cellsOf, keyEqs, keyEq, u8_inj]
@[go_sem] theorem lk_arr3_UInt8_Int (ok : Bool) (m : (List (arr3_UInt8 × Int))) (a0 : UInt8) (a1 : UInt8) (a2 : UInt8) : lookupO (.bytes 3) (.int .i64 0) ok (.agg [.int .u8 a0.toNat, .int .u8 a1.toNat, .int .u8 a2.toNat]) (some (.map (encM ek_arr3_UInt8_Int ev_arr3_UInt8_Int m))) = .prt True (okV ok (.int .i64 (mget 0 m (arr3_UInt8.mk a0 a1 a2))) (mhas m (arr3_UInt8.mk a0 a1 a2))) :=
  lookupO_enc (ek := ek_arr3_UInt8_Int) (ev := ev_arr3_UInt8_Int) (z := 0) (fun _ => rfl) eq_arr3_UInt8_Int rfl (fun _ => rfl) (fun _ => rfl) ok m (arr3_UInt8.mk a0 a1 a2)
@[go_sem] theorem up_arr3_UInt8_Int (b : Nat) (σ : St) (d : Option Nat) (K : St → Prop) (m : (List (arr3_UInt8 × Int))) (a0 : UInt8) (a1 : UInt8) (a2 : UInt8) (v : Int) : updO (.bytes 3) b σ (.agg [.int .u8 a0.toNat, .int .u8 a1.toNat, .int .u8 a2.toNat]) (.int .i64 v) d K (some (.map (encM ek_arr3_UInt8_Int ev_arr3_UInt8_Int m))) = K ({ σ with s := σ.s.set b (.map (encM ek_arr3_UInt8_Int ev_arr3_UInt8_Int (mput m (arr3_UInt8.mk a0 a1 a2) v))) }.put d (.tup [])) :=
  updO_enc (ek := ek_arr3_UInt8_Int) (ev := ev_arr3_UInt8_Int) (fun _ => rfl) eq_arr3_UInt8_Int (fun _ => rfl) m (arr3_UInt8.mk a0 a1 a2) v rfl rfl

/-- (catchword/lz.Token).may -/
def lz_Token_may (t_0 : lz_Token) : Option (Bool) :=
  if t_0.Length == 0 then
    some (t_0.Far == 0)
  else
    some ((((((t_0.Byte.toNat : Int) == 0) && (decide (t_0.Length ≥ 3))) && (decide (t_0.Length ≤ 258))) && (decide (t_0.Far ≥ 1))) && (decide (t_0.Far ≤ 32768)))
def ir_lz_Token_may : IC :=
 (.seq (.reg none [i1 1 (.boxL 3 (.t 0)),
 i1 2 (.mov false (.c (.bool false)))] [1])
 (.seq (.seq (.reg none [i1 3 (.fieldAddr 1 (.t 1)),
 i1 4 (.load 1 false (.t 3)),
 i1 5 (.bin .eql (.t 4) (.c (.int .i64 0)))] [1, 5])
 (.cond (.t 5) (.seq (.reg none [i1 6 (.fieldAddr 2 (.t 1)),
 i1 7 (.load 1 false (.t 6)),
 i1 8 (.bin .eql (.t 7) (.c (.int .i64 0))),
 mv 2 8] [2])
 .ret)
 .skip))
 (.seq (.reg none [i1 9 (.fieldAddr 0 (.t 1)),
 i1 10 (.load 1 false (.t 9)),
 i1 11 (.bin .eql (.t 10) (.c (.int .u8 0))),
 mv 12 11,
 i1g 13 12 true (.fieldAddr 1 (.t 1)),
 i1g 14 12 true (.load 1 false (.t 13)),
 i1g 15 12 true (.bin .geq (.t 14) (.c (.int .i64 3))),
 i1 16 (.pick (.t 12) (.t 15) (.c (.bool false))),
 mv 17 16,
 i1g 18 17 true (.fieldAddr 1 (.t 1)),
 i1g 19 17 true (.load 1 false (.t 18)),
 i1g 20 17 true (.bin .leq (.t 19) (.c (.int .i64 258))),
 i1 21 (.pick (.t 17) (.t 20) (.c (.bool false))),
 mv 22 21,
 i1g 23 22 true (.fieldAddr 2 (.t 1)),
 i1g 24 22 true (.load 1 false (.t 23)),
 i1g 25 22 true (.bin .geq (.t 24) (.c (.int .i64 1))),
 i1 26 (.pick (.t 22) (.t 25) (.c (.bool false))),
 mv 27 26,
 i1g 28 27 true (.fieldAddr 2 (.t 1)),
 i1g 29 27 true (.load 1 false (.t 28)),
 i1g 30 27 true (.bin .leq (.t 29) (.c (.int .i64 32768))),
 i1 31 (.pick (.t 27) (.t 30) (.c (.bool false))),
 mv 2 31] [2])
 .ret)))
def res_lz_Token_may : List IRes := [⟨2, true, none⟩]
theorem is_lz_Token_may : fnIs Go.Proofs.Try.prog 16 32 res_lz_Token_may ir_lz_Token_may = true := by kernel_rfl
theorem lz_Token_may_fn {t_0} {s : Store} {Q : List AV → Store → Prop}  : ok (lz_Token_may t_0) (fun r => Q [.bool r] s) → FN Go.Proofs.Try.prog 16 [.agg [.int .u8 t_0.Byte.toNat, .int .i64 t_0.Length, .int .i64 t_0.Far]] s Q := by
  intro h
  refine FN.of (draw_ok mix) is_lz_Token_may rfl (Nat.le_of_ble_eq_true rfl) ?_
  revert h
  rw [ir_lz_Token_may, res_lz_Token_may, lz_Token_may]
  repeat' (first
    | with_reducible exact tt_to
    | with_reducible refine and_to ?_ ?_
    | with_reducible refine im_to ?_
    | simp -implicitDefEqProofs only [go_sem, start, startE, resVs, resV, resC, allV, retK, Nat.reduceBEq, Nat.reduceAdd, Nat.reduceMul, Nat.reduceLeDiff, Nat.reduceEqDiff, Nat.reduceBNe, Nat.ble_eq, UInt8.reduceToNat])
theorem lz_Token_may_fe {t_0} {s : Store} {r : Bool}  (h : lz_Token_may t_0 = some r) : FE Go.Proofs.Try.prog 16 [.agg [.int .u8 t_0.Byte.toNat, .int .i64 t_0.Length, .int .i64 t_0.Far]] s [.bool r] s := lz_Token_may_fn   ⟨r, h, rfl, rfl⟩

/-- (catchword/lz.Token).size -/
def lz_Token_size (t_0 : lz_Token) : Option (Int) :=
  some (max 1 t_0.Length)
def ir_lz_Token_size : IC :=
 (.seq (.reg none [i1 1 (.boxL 3 (.t 0)),
 i1 2 (.mov false (.c (.int .i64 0)))] [1])
 (.seq (.reg none [i1 3 (.fieldAddr 1 (.t 1)),
 i1 4 (.load 1 false (.t 3)),
 i1 5 (.minmax true [(.c (.int .i64 1)), (.t 4)]),
 mv 2 5] [2])
 .ret))
def res_lz_Token_size : List IRes := [⟨2, true, none⟩]
theorem is_lz_Token_size : fnIs Go.Proofs.Try.prog 17 6 res_lz_Token_size ir_lz_Token_size = true := by kernel_rfl
theorem lz_Token_size_fn {t_0} {s : Store} {Q : List AV → Store → Prop}  : ok (lz_Token_size t_0) (fun r => Q [.int .i64 r] s) → FN Go.Proofs.Try.prog 17 [.agg [.int .u8 t_0.Byte.toNat, .int .i64 t_0.Length, .int .i64 t_0.Far]] s Q := by
  intro h
  refine FN.of (draw_ok mix) is_lz_Token_size rfl (Nat.le_of_ble_eq_true rfl) ?_
  revert h
  rw [ir_lz_Token_size, res_lz_Token_size, lz_Token_size]
  repeat' (first
    | with_reducible exact tt_to
    | with_reducible refine and_to ?_ ?_
    | with_reducible refine im_to ?_
    | simp -implicitDefEqProofs only [go_sem, start, startE, resVs, resV, resC, allV, retK, Nat.reduceBEq, Nat.reduceAdd, Nat.reduceMul, Nat.reduceLeDiff, Nat.reduceEqDiff, Nat.reduceBNe, Nat.ble_eq, UInt8.reduceToNat])
theorem lz_Token_size_fe {t_0} {s : Store} {r : Int}  (h : lz_Token_size t_0 = some r) : FE Go.Proofs.Try.prog 17 [.agg [.int .u8 t_0.Byte.toNat, .int .i64 t_0.Length, .int .i64 t_0.Far]] s [.int .i64 r] s := lz_Token_size_fn   ⟨r, h, rfl, rfl⟩

/-- catchword/lz.Match -/
def lz_Match (b_0 : (List UInt8)) (at_1 : Int) (far_2 : Int) (limit_3 : Int) : Option (Int) :=
  if (((decide (at_1 < 0)) || (decide (at_1 ≥ (b_0.length : Int)))) || (decide (far_2 < 1))) || (decide (far_2 > at_1)) then
    some 0
  else
    jn (
      iter (fun (n2 : Int) =>
        need (((decide (n2 < limit_3)) && (decide (w64 (at_1 + n2) < (b_0.length : Int)))) = true → 0 ≤ w64 (at_1 + n2) ∧ w64 (at_1 + n2) < b_0.length) <|
        need (((decide (n2 < limit_3)) && (decide (w64 (at_1 + n2) < (b_0.length : Int)))) = true → 0 ≤ w64 ((w64 (at_1 + n2)) - far_2) ∧ w64 ((w64 (at_1 + n2)) - far_2) < b_0.length) <|
        if ((decide (n2 < limit_3)) && (decide (w64 (at_1 + n2) < (b_0.length : Int)))) && (((ix b_0 (w64 (at_1 + n2))).toNat : Int) == ((ix b_0 (w64 ((w64 (at_1 + n2)) - far_2))).toNat : Int)) then
          some (.inl (w64 (n2 + 1)))
        else
          some (.inr n2)) 0) fun (n1 : Int) =>
    some n1
def ir_lz_Match : IC :=
 (.seq (.reg none [i1 8 (.mov false (.c (.int .i64 0)))] [0, 1, 2, 3])
 (.seq (.seq (.reg none [mv 10 1,
 i1 11 (.bin .lss (.t 10) (.c (.int .i64 0))),
 mv 12 11,
 mvg 13 1 12 false,
 mvg 14 0 12 false,
 i1g 15 12 false (.len 0 (.t 14)),
 i1g 16 12 false (.bin .geq (.t 13) (.t 15)),
 i1 17 (.pick (.t 12) (.c (.bool true)) (.t 16)),
 mv 18 17,
 mvg 19 2 18 false,
 i1g 20 18 false (.bin .lss (.t 19) (.c (.int .i64 1))),
 i1 21 (.pick (.t 18) (.c (.bool true)) (.t 20)),
 mv 22 21,
 mvg 23 2 22 false,
 mvg 24 1 22 false,
 i1g 25 22 false (.bin .gtr (.t 23) (.t 24)),
 i1 26 (.pick (.t 22) (.c (.bool true)) (.t 25))] [0, 1, 2, 3, 26])
 (.cond (.t 26) (.seq (.reg none [i1 8 (.mov false (.c (.int .i64 0)))] [8])
 .ret)
 .skip))
 (.seq (.reg none [i1 9 (.mov false (.c (.int .i64 0)))] [0, 1, 2, 3, 9])
 (.join [(9, false)] (.block 0 (.loop [(0, true), (1, false), (2, false), (3, false), (9, false)] (.seq (.seq (.reg (some 28) [mv 27 9,
 mv 28 3,
 i1 29 (.bin .lss (.t 27) (.t 28)),
 mv 30 29,
 mvg 31 1 30 true,
 mvg 32 9 30 true,
 i1g 33 30 true (.bin .add (.t 31) (.t 32)),
 mvg 34 0 30 true,
 i1g 35 30 true (.len 0 (.t 34)),
 i1g 36 30 true (.bin .lss (.t 33) (.t 35)),
 i1 37 (.pick (.t 30) (.t 36) (.c (.bool false))),
 mv 38 37,
 mvg 39 0 38 true,
 mvg 40 1 38 true,
 mvg 41 9 38 true,
 i1g 42 38 true (.bin .add (.t 40) (.t 41)),
 i1g 43 38 true (.indexAddr [.int .u8 0] (.t 39) (.t 42)),
 i1g 44 38 true (.load 1 false (.t 43)),
 mvg 45 0 38 true,
 mvg 46 1 38 true,
 mvg 47 9 38 true,
 i1g 48 38 true (.bin .add (.t 46) (.t 47)),
 mvg 49 2 38 true,
 i1g 50 38 true (.bin .sub (.t 48) (.t 49)),
 i1g 51 38 true (.indexAddr [.int .u8 0] (.t 45) (.t 50)),
 i1g 52 38 true (.load 1 false (.t 51)),
 i1g 53 38 true (.bin .eql (.t 44) (.t 52)),
 i1 54 (.pick (.t 38) (.t 53) (.c (.bool false)))] [0, 1, 2, 3, 9, 54])
 (.cond (.t 54) .skip
 (.exit 0)))
 (.block 1 (.reg none [mv 55 9,
 i1 56 (.bin .add (.t 55) (.c (.int .i64 1))),
 mv 9 56] [0, 1, 2, 3, 9])))))
 (.seq (.reg none [mv 57 9,
 mv 8 57] [8])
 .ret)))))
def res_lz_Match : List IRes := [⟨8, true, none⟩]
theorem is_lz_Match : fnIs Go.Proofs.Try.prog 14 58 res_lz_Match ir_lz_Match = true := by kernel_rfl
theorem lz_Match_fn {b_0 at_1 far_2 limit_3} {s : Store} {Q : List AV → Store → Prop}  : ok (lz_Match b_0 at_1 far_2 limit_3) (fun r => Q [.int .i64 r] s) → FN Go.Proofs.Try.prog 14 [.sl false 1 b_0.length (flat b_0), .int .i64 at_1, .int .i64 far_2, .int .i64 limit_3] s Q := by
  intro h
  refine FN.of (draw_ok mix) is_lz_Match rfl (Nat.le_of_ble_eq_true rfl) ?_
  revert h
  rw [ir_lz_Match, res_lz_Match, lz_Match]
  repeat' (first
    | with_reducible exact tt_to
    | with_reducible refine and_to ?_ ?_
    | with_reducible refine im_to ?_
    | ((with_reducible refine iter_to (fun (n2 : Int) => ⟨[(0, .sl false 1 b_0.length (flat b_0)), (1, .int .i64 at_1), (2, .int .i64 far_2), (3, .int .i64 limit_3), (9, .int .i64 n2)], [], s⟩) ?_ ?_); exact rfl; rintro J n2)
    | ((with_reducible refine join_to (fun (n1 : Int) => ⟨[(9, .int .i64 n1)], [], s⟩) (fun J => ?_) ?_); rotate_left; rintro n1)
    | simp -implicitDefEqProofs only [go_sem, start, startE, resVs, resV, resC, allV, retK, Nat.reduceBEq, Nat.reduceAdd, Nat.reduceMul, Nat.reduceLeDiff, Nat.reduceEqDiff, Nat.reduceBNe, Nat.ble_eq, UInt8.reduceToNat])
theorem lz_Match_fe {b_0 at_1 far_2 limit_3} {s : Store} {r : Int}  (h : lz_Match b_0 at_1 far_2 limit_3 = some r) : FE Go.Proofs.Try.prog 14 [.sl false 1 b_0.length (flat b_0), .int .i64 at_1, .int .i64 far_2, .int .i64 limit_3] s [.int .i64 r] s := lz_Match_fn   ⟨r, h, rfl, rfl⟩

/-- (*catchword/lz.finder).at -/
def lz_finder_at (f_0 : lz_finder) (i_1 : Int) : Option (arr3_UInt8 × Bool) :=
  if decide (w64 (i_1 + 3) > (f_0.b_.length : Int)) then
    some ((arr3_UInt8.mk 0 0 0), false)
  else
    need (0 ≤ i_1 ∧ i_1 < f_0.b_.length) <|
    need (0 ≤ w64 (i_1 + 1) ∧ w64 (i_1 + 1) < f_0.b_.length) <|
    need (0 ≤ w64 (i_1 + 2) ∧ w64 (i_1 + 2) < f_0.b_.length) <|
    some ((arr3_UInt8.mk (ix f_0.b_ i_1) (ix f_0.b_ (w64 (i_1 + 1))) (ix f_0.b_ (w64 (i_1 + 2)))), true)
def ir_lz_finder_at : IC :=
 (.seq (.reg none [i1 4 (.allocL [.int .u8 0, .int .u8 0, .int .u8 0]),
 i1 5 (.mov false (.c (.bool false)))] [0, 1, 4])
 (.seq (.seq (.reg none [mv 6 1,
 i1 7 (.bin .add (.t 6) (.c (.int .i64 3))),
 mv 8 0,
 i1 9 (.nilCheck (.t 8)),
 i1 10 (.fieldAddr 0 (.t 9)),
 i1 11 (.loadR [.sl false 1 0 []] false (.t 10)),
 i1 12 (.len 0 (.t 11)),
 i1 13 (.bin .gtr (.t 7) (.t 12))] [0, 1, 4, 13])
 (.cond (.t 13) (.seq (.reg none [i1 14 (.build [.int .u8 0, .int .u8 0, .int .u8 0] []),
 i0 (.store 3 (.t 4) (.t 14)),
 i1 5 (.mov false (.c (.bool false)))] [4, 5])
 .ret)
 .skip))
 (.seq (.reg (some 24) [mv 15 0,
 i1 16 (.nilCheck (.t 15)),
 i1 17 (.fieldAddr 0 (.t 16)),
 i1 18 (.loadR [.sl false 1 0 []] false (.t 17)),
 mv 19 1,
 i1 20 (.indexAddr [.int .u8 0] (.t 18) (.t 19)),
 i1 21 (.load 1 false (.t 20)),
 mv 22 0,
 i1 23 (.nilCheck (.t 22)),
 i1 24 (.fieldAddr 0 (.t 23)),
 i1 25 (.loadR [.sl false 1 0 []] false (.t 24)),
 mv 26 1,
 i1 27 (.bin .add (.t 26) (.c (.int .i64 1))),
 i1 28 (.indexAddr [.int .u8 0] (.t 25) (.t 27)),
 i1 29 (.load 1 false (.t 28)),
 mv 30 0,
 i1 31 (.nilCheck (.t 30)),
 i1 32 (.fieldAddr 0 (.t 31)),
 i1 33 (.loadR [.sl false 1 0 []] false (.t 32)),
 mv 34 1,
 i1 35 (.bin .add (.t 34) (.c (.int .i64 2))),
 i1 36 (.indexAddr [.int .u8 0] (.t 33) (.t 35)),
 i1 37 (.load 1 false (.t 36)),
 i1 38 (.build [.int .u8 0, .int .u8 0, .int .u8 0] [(0, 1, (.t 21)), (1, 1, (.t 29)), (2, 1, (.t 37))]),
 i0 (.store 3 (.t 4) (.t 38)),
 i1 5 (.mov false (.c (.bool true)))] [4, 5])
 .ret)))
def res_lz_finder_at : List IRes := [⟨4, false, some (3, true)⟩, ⟨5, true, none⟩]
theorem is_lz_finder_at : fnIs Go.Proofs.Try.prog 20 39 res_lz_finder_at ir_lz_finder_at = true := by kernel_rfl
theorem lz_finder_at_fn {f_0 i_1} {B0 B0_last_ B0_prev_ : Nat} {s : Store} {Q : List AV → Store → Prop} (hB0 : s B0 = some (.cells [.sl false 1 f_0.b_.length (flat f_0.b_), .mp B0_last_, .arr B0_prev_ 0 f_0.prev_.n f_0.prev_.n])) (hB0_last_ : s B0_last_ = some (.map (encM ek_arr3_UInt8_Int ev_arr3_UInt8_Int f_0.last_))) (hB0_prev_ : s B0_prev_ = some (.cells (flat f_0.prev_.l))) (nB0B0_last_ : B0 ≠ B0_last_) (nB0B0_prev_ : B0 ≠ B0_prev_) (nB0_last_B0_prev_ : B0_last_ ≠ B0_prev_) : ok (lz_finder_at f_0 i_1) (fun r => Q [.agg [.int .u8 r.1.a0.toNat, .int .u8 r.1.a1.toNat, .int .u8 r.1.a2.toNat], .bool r.2] s) → FN Go.Proofs.Try.prog 20 [.ref B0 0, .int .i64 i_1] s Q := by
  have hS : s = (((s.set B0 (.cells [.sl false 1 f_0.b_.length (flat f_0.b_), .mp B0_last_, .arr B0_prev_ 0 f_0.prev_.n f_0.prev_.n])).set B0_last_ (.map (encM ek_arr3_UInt8_Int ev_arr3_UInt8_Int f_0.last_))).set B0_prev_ (.cells (flat f_0.prev_.l))) := by simp only [set_eq' hB0, set_eq' hB0_last_, set_eq' hB0_prev_]
  rw [hS]
  intro h
  refine FN.of (draw_ok mix) is_lz_finder_at rfl (Nat.le_of_ble_eq_true rfl) ?_
  revert h
  rw [ir_lz_finder_at, res_lz_finder_at, lz_finder_at]
  repeat' (first
    | with_reducible exact tt_to
    | with_reducible refine and_to ?_ ?_
    | with_reducible refine im_to ?_
    | simp -implicitDefEqProofs only [go_sem, start, startE, resVs, resV, resC, allV, retK, Nat.reduceBEq, Nat.reduceAdd, Nat.reduceMul, Nat.reduceLeDiff, Nat.reduceEqDiff, Nat.reduceBNe, Nat.ble_eq, UInt8.reduceToNat, set_ne nB0B0_last_, set_ne nB0B0_last_.symm, set_comm nB0B0_last_, set_ne nB0B0_prev_, set_ne nB0B0_prev_.symm, set_comm nB0B0_prev_, set_ne nB0_last_B0_prev_, set_ne nB0_last_B0_prev_.symm, set_comm nB0_last_B0_prev_])
theorem lz_finder_at_fe {f_0 i_1} {B0 B0_last_ B0_prev_ : Nat} {s : Store} {r : arr3_UInt8 × Bool} (hB0 : s B0 = some (.cells [.sl false 1 f_0.b_.length (flat f_0.b_), .mp B0_last_, .arr B0_prev_ 0 f_0.prev_.n f_0.prev_.n])) (hB0_last_ : s B0_last_ = some (.map (encM ek_arr3_UInt8_Int ev_arr3_UInt8_Int f_0.last_))) (hB0_prev_ : s B0_prev_ = some (.cells (flat f_0.prev_.l))) (nB0B0_last_ : B0 ≠ B0_last_) (nB0B0_prev_ : B0 ≠ B0_prev_) (nB0_last_B0_prev_ : B0_last_ ≠ B0_prev_) (h : lz_finder_at f_0 i_1 = some r) : FE Go.Proofs.Try.prog 20 [.ref B0 0, .int .i64 i_1] s [.agg [.int .u8 r.1.a0.toNat, .int .u8 r.1.a1.toNat, .int .u8 r.1.a2.toNat], .bool r.2] s := lz_finder_at_fn hB0 hB0_last_ hB0_prev_ nB0B0_last_ nB0B0_prev_ nB0_last_B0_prev_ ⟨r, h, rfl, rfl⟩

/-- (*catchword/lz.finder).best -/
def lz_finder_best (f_0 : lz_finder) (i_1 : Int) : Option (Int × Int) :=
  bnd (lz_finder_at f_0 i_1) fun r1 =>
  if !r1.2 || (!(mhas f_0.last_ r1.1)) then
    some (0, 0)
  else
    jn (
      iter (fun ((length5, far6, p7, n8) : Int × Int × Int × Int) =>
        if (decide (p7 ≥ 0)) && (decide (w64 (i_1 - p7) ≤ 32768)) then
          jn (
            bnd (lz_Match f_0.b_ i_1 (w64 (i_1 - p7)) 258) fun r18 =>
            if decide (r18 > length5) then
              some (r18, w64 (i_1 - p7))
            else
              some (length5, far6)) fun ((length13, far14) : Int × Int) =>
          if (n8 == 32) || (length13 == 258) then
            some (.inr (length13, far14))
          else
            need (0 ≤ p7 ∧ p7 < f_0.prev_.n) <|
            need ((p7 : Int).toNat * 1 + 1 ≤ (flat f_0.prev_.l).length) <|
            some (.inl (length13, far14, ix f_0.prev_.l p7, w64 (n8 + 1)))
        else
          some (.inr (length5, far6))) (0, 0, mget 0 f_0.last_ r1.1, 0)) fun ((length2, far3) : Int × Int) =>
    if decide (length2 < 3) then
      some (0, 0)
    else
      some (length2, far3)
def ir_lz_finder_best : IC :=
 (.seq (.reg none [i1 4 (.mov false (.c (.int .i64 0))),
 i1 5 (.mov false (.c (.int .i64 0)))] [0, 1])
 (.scope (.seq (.reg none [i1 6 (.mov false (.c (.int .i64 0))),
 i1 7 (.mov false (.c (.int .i64 0)))] [0, 1, 6, 7])
 (.seq (.reg none [mv 15 0,
 mv 16 1,
 i1 17 (.call 20 [(.t 15), (.t 16)]),
 i1 14 (.movT (.t 17)),
 i1 18 (.extract (.t 14) 0),
 i1 19 (.extract (.t 14) 1),
 i1 8 (.allocL [.int .u8 0, .int .u8 0, .int .u8 0]),
 i0 (.store 3 (.t 8) (.t 18)),
 mv 9 19] [0, 1, 6, 7, 8, 9])
 (.seq (.reg (some 11) [mv 21 0,
 i1 22 (.nilCheck (.t 21)),
 i1 23 (.fieldAddr 1 (.t 22)),
 i1 24 (.loadR [.nilm] false (.t 23)),
 i1 25 (.load 3 true (.t 8)),
 i1 26 (.lookup (.bytes 3) (.int .i64 0) true (.t 24) (.t 25)),
 i1 20 (.movT (.t 26)),
 i1 27 (.extract (.t 20) 0),
 i1 28 (.extract (.t 20) 1),
 mv 10 27,
 mv 11 28] [0, 1, 6, 7, 9, 10, 11])
 (.seq (.seq (.reg none [mv 29 9,
 i1 30 (.un .not (.t 29)),
 mv 31 30,
 mvg 32 11 31 false,
 i1g 33 31 false (.un .not (.t 32)),
 i1 34 (.pick (.t 31) (.c (.bool true)) (.t 33))] [0, 1, 6, 7, 10, 34])
 (.cond (.t 34) (.seq (.reg none [i1 4 (.mov false (.c (.int .i64 0))),
 i1 5 (.mov false (.c (.int .i64 0)))] [4, 5])
 .ret)
 .skip))
 (.seq (.label 0)
 (.join [(6, false), (7, false)] (.seq (.reg none [i1 12 (.mov false (.c (.int .i64 0)))] [0, 1, 6, 7, 10, 12])
 (.block 0 (.loop [(0, false), (1, false), (6, false), (7, false), (10, false), (12, false)] (.seq (.seq (.reg none [mv 35 10,
 i1 36 (.bin .geq (.t 35) (.c (.int .i64 0))),
 mv 37 36,
 mvg 38 1 37 true,
 mvg 39 10 37 true,
 i1g 40 37 true (.bin .sub (.t 38) (.t 39)),
 i1g 41 37 true (.bin .leq (.t 40) (.c (.int .i64 32768))),
 i1 42 (.pick (.t 37) (.t 41) (.c (.bool false)))] [0, 1, 6, 7, 10, 12, 42])
 (.cond (.t 42) .skip
 (.exit 0)))
 (.seq (.block 1 (.join [(0, false), (1, false), (6, false), (7, false), (10, false), (12, false)] (.seq (.reg none [mv 45 0,
 i1 46 (.nilCheck (.t 45)),
 i1 47 (.fieldAddr 0 (.t 46)),
 i1 48 (.loadR [.sl false 1 0 []] false (.t 47)),
 mv 49 1,
 mv 50 1,
 mv 51 10,
 i1 52 (.bin .sub (.t 50) (.t 51)),
 i1 53 (.call 14 [(.t 48), (.t 49), (.t 52), (.c (.int .i64 258))]),
 mv 13 53] [0, 1, 6, 7, 10, 12, 13])
 (.seq (.reg none [mv 54 13,
 mv 55 6,
 i1 56 (.bin .gtr (.t 54) (.t 55))] [0, 1, 6, 7, 10, 12, 13, 56])
 (.cond (.t 56) (.reg none [mv 57 13,
 mv 58 1,
 mv 59 10,
 i1 60 (.bin .sub (.t 58) (.t 59)),
 mv 6 57,
 mv 7 60] [0, 1, 6, 7, 10, 12])
 .skip)))
 (.seq (.seq (.reg none [mv 61 12,
 i1 62 (.bin .eql (.t 61) (.c (.int .i64 32))),
 mv 63 62,
 mvg 64 6 63 false,
 i1g 65 63 false (.bin .eql (.t 64) (.c (.int .i64 258))),
 i1 66 (.pick (.t 63) (.c (.bool true)) (.t 65))] [0, 1, 6, 7, 10, 12, 66])
 (.cond (.t 66) (.exit 0)
 .skip))
 (.reg none [mv 67 0,
 i1 68 (.nilCheck (.t 67)),
 i1 69 (.fieldAddr 2 (.t 68)),
 i1 70 (.loadR [.sl false 1 0 []] false (.t 69)),
 mv 71 10,
 i1 72 (.indexAddr [.int .i64 0] (.t 70) (.t 71)),
 i1 73 (.loadR [.int .i64 0] false (.t 72)),
 mv 10 73] [0, 1, 6, 7, 10, 12]))))
 (.reg none [mv 43 12,
 i1 44 (.bin .add (.t 43) (.c (.int .i64 1))),
 mv 12 44] [0, 1, 6, 7, 10, 12]))))))
 (.seq (.seq (.reg none [mv 74 6,
 i1 75 (.bin .lss (.t 74) (.c (.int .i64 3)))] [6, 7, 75])
 (.cond (.t 75) (.seq (.reg none [i1 4 (.mov false (.c (.int .i64 0))),
 i1 5 (.mov false (.c (.int .i64 0)))] [4, 5])
 .ret)
 .skip))
 (.seq (.reg none [mv 76 6,
 mv 77 7,
 mv 4 76,
 mv 5 77] [4, 5])
 .ret))))))))))
def res_lz_finder_best : List IRes := [⟨4, true, none⟩, ⟨5, true, none⟩]
theorem is_lz_finder_best : fnIs Go.Proofs.Try.prog 18 78 res_lz_finder_best ir_lz_finder_best = true := by kernel_rfl
theorem lz_finder_best_fn {f_0 i_1} {B0 B0_last_ B0_prev_ : Nat} {s : Store} {Q : List AV → Store → Prop} (hB0 : s B0 = some (.cells [.sl false 1 f_0.b_.length (flat f_0.b_), .mp B0_last_, .arr B0_prev_ 0 f_0.prev_.n f_0.prev_.n])) (hB0_last_ : s B0_last_ = some (.map (encM ek_arr3_UInt8_Int ev_arr3_UInt8_Int f_0.last_))) (hB0_prev_ : s B0_prev_ = some (.cells (flat f_0.prev_.l))) (nB0B0_last_ : B0 ≠ B0_last_) (nB0B0_prev_ : B0 ≠ B0_prev_) (nB0_last_B0_prev_ : B0_last_ ≠ B0_prev_) : ok (lz_finder_best f_0 i_1) (fun r => Q [.int .i64 r.1, .int .i64 r.2] s) → FN Go.Proofs.Try.prog 18 [.ref B0 0, .int .i64 i_1] s Q := by
  have hS : s = (((s.set B0 (.cells [.sl false 1 f_0.b_.length (flat f_0.b_), .mp B0_last_, .arr B0_prev_ 0 f_0.prev_.n f_0.prev_.n])).set B0_last_ (.map (encM ek_arr3_UInt8_Int ev_arr3_UInt8_Int f_0.last_))).set B0_prev_ (.cells (flat f_0.prev_.l))) := by simp only [set_eq' hB0, set_eq' hB0_last_, set_eq' hB0_prev_]
  rw [hS]
  intro h
  refine FN.of (draw_ok mix) is_lz_finder_best rfl (Nat.le_of_ble_eq_true rfl) ?_
  revert h
  rw [ir_lz_finder_best, res_lz_finder_best, lz_finder_best]
  repeat' (first
    | with_reducible exact tt_to
    | with_reducible refine and_to ?_ ?_
    | with_reducible refine im_to ?_
    | with_reducible refine call_to (fun _ (h : lz_finder_at f_0 i_1 = some _) => lz_finder_at_fe (B0 := B0) (B0_last_ := B0_last_) (B0_prev_ := B0_prev_) (by simp -implicitDefEqProofs only [go_sem, start, startE, resVs, resV, resC, allV, retK, Nat.reduceBEq, Nat.reduceAdd, Nat.reduceMul, Nat.reduceLeDiff, Nat.reduceEqDiff, Nat.reduceBNe, Nat.ble_eq, UInt8.reduceToNat, set_ne nB0B0_last_, set_ne nB0B0_last_.symm, set_comm nB0B0_last_, set_ne nB0B0_prev_, set_ne nB0B0_prev_.symm, set_comm nB0B0_prev_, set_ne nB0_last_B0_prev_, set_ne nB0_last_B0_prev_.symm, set_comm nB0_last_B0_prev_]) (by simp -implicitDefEqProofs only [go_sem, start, startE, resVs, resV, resC, allV, retK, Nat.reduceBEq, Nat.reduceAdd, Nat.reduceMul, Nat.reduceLeDiff, Nat.reduceEqDiff, Nat.reduceBNe, Nat.ble_eq, UInt8.reduceToNat, set_ne nB0B0_last_, set_ne nB0B0_last_.symm, set_comm nB0B0_last_, set_ne nB0B0_prev_, set_ne nB0B0_prev_.symm, set_comm nB0B0_prev_, set_ne nB0_last_B0_prev_, set_ne nB0_last_B0_prev_.symm, set_comm nB0_last_B0_prev_]) (by simp -implicitDefEqProofs only [go_sem, start, startE, resVs, resV, resC, allV, retK, Nat.reduceBEq, Nat.reduceAdd, Nat.reduceMul, Nat.reduceLeDiff, Nat.reduceEqDiff, Nat.reduceBNe, Nat.ble_eq, UInt8.reduceToNat, set_ne nB0B0_last_, set_ne nB0B0_last_.symm, set_comm nB0B0_last_, set_ne nB0B0_prev_, set_ne nB0B0_prev_.symm, set_comm nB0B0_prev_, set_ne nB0_last_B0_prev_, set_ne nB0_last_B0_prev_.symm, set_comm nB0_last_B0_prev_]) nB0B0_last_ nB0B0_prev_ nB0_last_B0_prev_ h) (fun r1 => ?_)
    | with_reducible refine call_to_q (fun _ (h : lz_finder_at f_0 i_1 = some _) => lz_finder_at_fe (B0 := B0) (B0_last_ := B0_last_) (B0_prev_ := B0_prev_) (by simp -implicitDefEqProofs only [go_sem, start, startE, resVs, resV, resC, allV, retK, Nat.reduceBEq, Nat.reduceAdd, Nat.reduceMul, Nat.reduceLeDiff, Nat.reduceEqDiff, Nat.reduceBNe, Nat.ble_eq, UInt8.reduceToNat, set_ne nB0B0_last_, set_ne nB0B0_last_.symm, set_comm nB0B0_last_, set_ne nB0B0_prev_, set_ne nB0B0_prev_.symm, set_comm nB0B0_prev_, set_ne nB0_last_B0_prev_, set_ne nB0_last_B0_prev_.symm, set_comm nB0_last_B0_prev_]) (by simp -implicitDefEqProofs only [go_sem, start, startE, resVs, resV, resC, allV, retK, Nat.reduceBEq, Nat.reduceAdd, Nat.reduceMul, Nat.reduceLeDiff, Nat.reduceEqDiff, Nat.reduceBNe, Nat.ble_eq, UInt8.reduceToNat, set_ne nB0B0_last_, set_ne nB0B0_last_.symm, set_comm nB0B0_last_, set_ne nB0B0_prev_, set_ne nB0B0_prev_.symm, set_comm nB0B0_prev_, set_ne nB0_last_B0_prev_, set_ne nB0_last_B0_prev_.symm, set_comm nB0_last_B0_prev_]) (by simp -implicitDefEqProofs only [go_sem, start, startE, resVs, resV, resC, allV, retK, Nat.reduceBEq, Nat.reduceAdd, Nat.reduceMul, Nat.reduceLeDiff, Nat.reduceEqDiff, Nat.reduceBNe, Nat.ble_eq, UInt8.reduceToNat, set_ne nB0B0_last_, set_ne nB0B0_last_.symm, set_comm nB0B0_last_, set_ne nB0B0_prev_, set_ne nB0B0_prev_.symm, set_comm nB0B0_prev_, set_ne nB0_last_B0_prev_, set_ne nB0_last_B0_prev_.symm, set_comm nB0_last_B0_prev_]) nB0B0_last_ nB0B0_prev_ nB0_last_B0_prev_ h) (fun _ => rfl) (fun r1 => ?_)
    | with_reducible refine call_to (fun _ (h : lz_Match f_0.b_ i_1 (w64 (i_1 - p7)) 258 = some _) => lz_Match_fe h) (fun r18 => ?_)
    | with_reducible refine call_to_q (fun _ (h : lz_Match f_0.b_ i_1 (w64 (i_1 - p7)) 258 = some _) => lz_Match_fe h) (fun _ => rfl) (fun r18 => ?_)
    | with_reducible refine call_to (fun _ (h : lz_Match f_0.b_ i_1 (w64 (i_1 - p7)) 258 = some _) => (by have hx := lz_Match_fe (s := s) h; simp -implicitDefEqProofs only [go_sem, start, startE, resVs, resV, resC, allV, retK, Nat.reduceBEq, Nat.reduceAdd, Nat.reduceMul, Nat.reduceLeDiff, Nat.reduceEqDiff, Nat.reduceBNe, Nat.ble_eq, UInt8.reduceToNat, set_ne nB0B0_last_, set_ne nB0B0_last_.symm, set_comm nB0B0_last_, set_ne nB0B0_prev_, set_ne nB0B0_prev_.symm, set_comm nB0B0_prev_, set_ne nB0_last_B0_prev_, set_ne nB0_last_B0_prev_.symm, set_comm nB0_last_B0_prev_] at hx; exact hx)) (fun r18 => ?_)
    | with_reducible refine call_to_q (fun _ (h : lz_Match f_0.b_ i_1 (w64 (i_1 - p7)) 258 = some _) => (by have hx := lz_Match_fe (s := s) h; simp -implicitDefEqProofs only [go_sem, start, startE, resVs, resV, resC, allV, retK, Nat.reduceBEq, Nat.reduceAdd, Nat.reduceMul, Nat.reduceLeDiff, Nat.reduceEqDiff, Nat.reduceBNe, Nat.ble_eq, UInt8.reduceToNat, set_ne nB0B0_last_, set_ne nB0B0_last_.symm, set_comm nB0B0_last_, set_ne nB0B0_prev_, set_ne nB0B0_prev_.symm, set_comm nB0B0_prev_, set_ne nB0_last_B0_prev_, set_ne nB0_last_B0_prev_.symm, set_comm nB0_last_B0_prev_] at hx; exact hx)) (fun _ => rfl) (fun r18 => ?_)
    | ((with_reducible refine join_to (fun ((length13, far14) : Int × Int) => ⟨[(0, .ref B0 0), (1, .int .i64 i_1), (6, .int .i64 length13), (7, .int .i64 far14), (10, .int .i64 p7), (12, .int .i64 n8)], [], (((s.set B0 (.cells [.sl false 1 f_0.b_.length (flat f_0.b_), .mp B0_last_, .arr B0_prev_ 0 f_0.prev_.n f_0.prev_.n])).set B0_last_ (.map (encM ek_arr3_UInt8_Int ev_arr3_UInt8_Int f_0.last_))).set B0_prev_ (.cells (flat f_0.prev_.l)))⟩) (fun J => ?_) ?_); rotate_left; rintro ⟨length13, far14⟩)
    | ((with_reducible refine iter_to (fun ((length5, far6, p7, n8) : Int × Int × Int × Int) => ⟨[(0, .ref B0 0), (1, .int .i64 i_1), (6, .int .i64 length5), (7, .int .i64 far6), (10, .int .i64 p7), (12, .int .i64 n8)], [], (((s.set B0 (.cells [.sl false 1 f_0.b_.length (flat f_0.b_), .mp B0_last_, .arr B0_prev_ 0 f_0.prev_.n f_0.prev_.n])).set B0_last_ (.map (encM ek_arr3_UInt8_Int ev_arr3_UInt8_Int f_0.last_))).set B0_prev_ (.cells (flat f_0.prev_.l)))⟩) ?_ ?_); exact rfl; rintro J ⟨length5, far6, p7, n8⟩)
    | ((with_reducible refine join_to (fun ((length2, far3) : Int × Int) => ⟨[(6, .int .i64 length2), (7, .int .i64 far3)], [], (((s.set B0 (.cells [.sl false 1 f_0.b_.length (flat f_0.b_), .mp B0_last_, .arr B0_prev_ 0 f_0.prev_.n f_0.prev_.n])).set B0_last_ (.map (encM ek_arr3_UInt8_Int ev_arr3_UInt8_Int f_0.last_))).set B0_prev_ (.cells (flat f_0.prev_.l)))⟩) (fun J => ?_) ?_); rotate_left; rintro ⟨length2, far3⟩)
    | simp -implicitDefEqProofs only [go_sem, start, startE, resVs, resV, resC, allV, retK, Nat.reduceBEq, Nat.reduceAdd, Nat.reduceMul, Nat.reduceLeDiff, Nat.reduceEqDiff, Nat.reduceBNe, Nat.ble_eq, UInt8.reduceToNat, set_ne nB0B0_last_, set_ne nB0B0_last_.symm, set_comm nB0B0_last_, set_ne nB0B0_prev_, set_ne nB0B0_prev_.symm, set_comm nB0B0_prev_, set_ne nB0_last_B0_prev_, set_ne nB0_last_B0_prev_.symm, set_comm nB0_last_B0_prev_])
theorem lz_finder_best_fe {f_0 i_1} {B0 B0_last_ B0_prev_ : Nat} {s : Store} {r : Int × Int} (hB0 : s B0 = some (.cells [.sl false 1 f_0.b_.length (flat f_0.b_), .mp B0_last_, .arr B0_prev_ 0 f_0.prev_.n f_0.prev_.n])) (hB0_last_ : s B0_last_ = some (.map (encM ek_arr3_UInt8_Int ev_arr3_UInt8_Int f_0.last_))) (hB0_prev_ : s B0_prev_ = some (.cells (flat f_0.prev_.l))) (nB0B0_last_ : B0 ≠ B0_last_) (nB0B0_prev_ : B0 ≠ B0_prev_) (nB0_last_B0_prev_ : B0_last_ ≠ B0_prev_) (h : lz_finder_best f_0 i_1 = some r) : FE Go.Proofs.Try.prog 18 [.ref B0 0, .int .i64 i_1] s [.int .i64 r.1, .int .i64 r.2] s := lz_finder_best_fn hB0 hB0_last_ hB0_prev_ nB0B0_last_ nB0B0_prev_ nB0_last_B0_prev_ ⟨r, h, rfl, rfl⟩

/-- (*catchword/lz.finder).note -/
def lz_finder_note (f_0 : lz_finder) (i_1 : Int) : Option (lz_finder) :=
  bnd (lz_finder_at f_0 i_1) fun r1 =>
  need (0 ≤ i_1 ∧ i_1 < f_0.prev_.n) <|
  need ((i_1 : Int).toNat * 1 + 1 ≤ (flat f_0.prev_.l).length) <|
  if !r1.2 then
    some (lz_finder.mk f_0.b_ f_0.last_ (MSl.mk f_0.prev_.n (updL f_0.prev_.l i_1 (-1))))
  else
    jn (
      if mhas f_0.last_ r1.1 then
        need (0 ≤ i_1 ∧ i_1 < f_0.prev_.n) <|
        need ((i_1 : Int).toNat * 1 + 1 ≤ (flat (updL f_0.prev_.l i_1 (-1))).length) <|
        some (lz_finder.mk f_0.b_ f_0.last_ (MSl.mk f_0.prev_.n (updL (updL f_0.prev_.l i_1 (-1)) i_1 (mget 0 f_0.last_ r1.1))))
      else
        some (lz_finder.mk f_0.b_ f_0.last_ (MSl.mk f_0.prev_.n (updL f_0.prev_.l i_1 (-1))))) fun (o4 : lz_finder) =>
    some (lz_finder.mk o4.b_ (mput o4.last_ r1.1 i_1) (MSl.mk o4.prev_.n o4.prev_.l))
def ir_lz_finder_note : IC :=
 (.seq (.reg none [mv 9 0,
 mv 10 1,
 i1 11 (.call 20 [(.t 9), (.t 10)]),
 i1 8 (.movT (.t 11)),
 i1 12 (.extract (.t 8) 0),
 i1 13 (.extract (.t 8) 1),
 i1 4 (.allocL [.int .u8 0, .int .u8 0, .int .u8 0]),
 i0 (.store 3 (.t 4) (.t 12)),
 mv 5 13] [0, 1, 4, 5])
 (.seq (.reg none [mv 14 0,
 i1 15 (.nilCheck (.t 14)),
 i1 16 (.fieldAddr 2 (.t 15)),
 i1 17 (.loadR [.sl false 1 0 []] false (.t 16)),
 mv 18 1,
 i1 19 (.indexAddr [.int .i64 0] (.t 17) (.t 18)),
 i0 (.store 1 (.t 19) (.c (.int .i64 (-1))))] [0, 1, 4, 5])
 (.seq (.seq (.reg none [mv 20 5,
 i1 21 (.un .not (.t 20))] [0, 1, 4, 21])
 (.cond (.t 21) .ret
 .skip))
 (.join [(0, false), (1, false), (4, false)] (.seq (.reg (some 11) [mv 23 0,
 i1 24 (.nilCheck (.t 23)),
 i1 25 (.fieldAddr 1 (.t 24)),
 i1 26 (.loadR [.nilm] false (.t 25)),
 i1 27 (.load 3 true (.t 4)),
 i1 28 (.lookup (.bytes 3) (.int .i64 0) true (.t 26) (.t 27)),
 i1 22 (.movT (.t 28)),
 i1 29 (.extract (.t 22) 0),
 i1 30 (.extract (.t 22) 1),
 mv 6 29,
 mv 7 30] [0, 1, 4, 6, 7])
 (.seq (.reg none [mv 31 7] [0, 1, 4, 6, 31])
 (.cond (.t 31) (.reg none [mv 32 0,
 i1 33 (.nilCheck (.t 32)),
 i1 34 (.fieldAddr 2 (.t 33)),
 i1 35 (.loadR [.sl false 1 0 []] false (.t 34)),
 mv 36 1,
 mv 37 6,
 i1 38 (.indexAddr [.int .i64 0] (.t 35) (.t 36)),
 i0 (.store 1 (.t 38) (.t 37))] [0, 1, 4])
 .skip)))
 (.reg (some 6) [mv 39 0,
 i1 40 (.nilCheck (.t 39)),
 i1 41 (.fieldAddr 1 (.t 40)),
 i1 42 (.loadR [.nilm] false (.t 41)),
 i1 43 (.load 3 true (.t 4)),
 mv 44 1,
 i0 (.mapUpdate (.bytes 3) (.t 42) (.t 43) (.t 44))] [])))))
def res_lz_finder_note : List IRes := []
theorem is_lz_finder_note : fnIs Go.Proofs.Try.prog 19 45 res_lz_finder_note ir_lz_finder_note = true := by kernel_rfl
theorem lz_finder_note_fn {f_0 i_1} {B0 B0_last_ B0_prev_ : Nat} {s : Store} {Q : List AV → Store → Prop} (hB0 : s B0 = some (.cells [.sl false 1 f_0.b_.length (flat f_0.b_), .mp B0_last_, .arr B0_prev_ 0 f_0.prev_.n f_0.prev_.n])) (hB0_last_ : s B0_last_ = some (.map (encM ek_arr3_UInt8_Int ev_arr3_UInt8_Int f_0.last_))) (hB0_prev_ : s B0_prev_ = some (.cells (flat f_0.prev_.l))) (nB0B0_last_ : B0 ≠ B0_last_) (nB0B0_prev_ : B0 ≠ B0_prev_) (nB0_last_B0_prev_ : B0_last_ ≠ B0_prev_) : ok (lz_finder_note f_0 i_1) (fun r => Q [] (((s.set B0 (.cells [.sl false 1 r.b_.length (flat r.b_), .mp B0_last_, .arr B0_prev_ 0 r.prev_.n r.prev_.n])).set B0_last_ (.map (encM ek_arr3_UInt8_Int ev_arr3_UInt8_Int r.last_))).set B0_prev_ (.cells (flat r.prev_.l)))) → FN Go.Proofs.Try.prog 19 [.ref B0 0, .int .i64 i_1] s Q := by
  have hS : s = (((s.set B0 (.cells [.sl false 1 f_0.b_.length (flat f_0.b_), .mp B0_last_, .arr B0_prev_ 0 f_0.prev_.n f_0.prev_.n])).set B0_last_ (.map (encM ek_arr3_UInt8_Int ev_arr3_UInt8_Int f_0.last_))).set B0_prev_ (.cells (flat f_0.prev_.l))) := by simp only [set_eq' hB0, set_eq' hB0_last_, set_eq' hB0_prev_]
  rw [hS]
  intro h
  refine FN.of (draw_ok mix) is_lz_finder_note rfl (Nat.le_of_ble_eq_true rfl) ?_
  revert h
  rw [ir_lz_finder_note, res_lz_finder_note, lz_finder_note]
  repeat' (first
    | with_reducible exact tt_to
    | with_reducible refine and_to ?_ ?_
    | with_reducible refine im_to ?_
    | with_reducible refine call_to (fun _ (h : lz_finder_at f_0 i_1 = some _) => lz_finder_at_fe (B0 := B0) (B0_last_ := B0_last_) (B0_prev_ := B0_prev_) (by simp -implicitDefEqProofs only [go_sem, start, startE, resVs, resV, resC, allV, retK, Nat.reduceBEq, Nat.reduceAdd, Nat.reduceMul, Nat.reduceLeDiff, Nat.reduceEqDiff, Nat.reduceBNe, Nat.ble_eq, UInt8.reduceToNat, set_ne nB0B0_last_, set_ne nB0B0_last_.symm, set_comm nB0B0_last_, set_ne nB0B0_prev_, set_ne nB0B0_prev_.symm, set_comm nB0B0_prev_, set_ne nB0_last_B0_prev_, set_ne nB0_last_B0_prev_.symm, set_comm nB0_last_B0_prev_]) (by simp -implicitDefEqProofs only [go_sem, start, startE, resVs, resV, resC, allV, retK, Nat.reduceBEq, Nat.reduceAdd, Nat.reduceMul, Nat.reduceLeDiff, Nat.reduceEqDiff, Nat.reduceBNe, Nat.ble_eq, UInt8.reduceToNat, set_ne nB0B0_last_, set_ne nB0B0_last_.symm, set_comm nB0B0_last_, set_ne nB0B0_prev_, set_ne nB0B0_prev_.symm, set_comm nB0B0_prev_, set_ne nB0_last_B0_prev_, set_ne nB0_last_B0_prev_.symm, set_comm nB0_last_B0_prev_]) (by simp -implicitDefEqProofs only [go_sem, start, startE, resVs, resV, resC, allV, retK, Nat.reduceBEq, Nat.reduceAdd, Nat.reduceMul, Nat.reduceLeDiff, Nat.reduceEqDiff, Nat.reduceBNe, Nat.ble_eq, UInt8.reduceToNat, set_ne nB0B0_last_, set_ne nB0B0_last_.symm, set_comm nB0B0_last_, set_ne nB0B0_prev_, set_ne nB0B0_prev_.symm, set_comm nB0B0_prev_, set_ne nB0_last_B0_prev_, set_ne nB0_last_B0_prev_.symm, set_comm nB0_last_B0_prev_]) nB0B0_last_ nB0B0_prev_ nB0_last_B0_prev_ h) (fun r1 => ?_)
    | with_reducible refine call_to_q (fun _ (h : lz_finder_at f_0 i_1 = some _) => lz_finder_at_fe (B0 := B0) (B0_last_ := B0_last_) (B0_prev_ := B0_prev_) (by simp -implicitDefEqProofs only [go_sem, start, startE, resVs, resV, resC, allV, retK, Nat.reduceBEq, Nat.reduceAdd, Nat.reduceMul, Nat.reduceLeDiff, Nat.reduceEqDiff, Nat.reduceBNe, Nat.ble_eq, UInt8.reduceToNat, set_ne nB0B0_last_, set_ne nB0B0_last_.symm, set_comm nB0B0_last_, set_ne nB0B0_prev_, set_ne nB0B0_prev_.symm, set_comm nB0B0_prev_, set_ne nB0_last_B0_prev_, set_ne nB0_last_B0_prev_.symm, set_comm nB0_last_B0_prev_]) (by simp -implicitDefEqProofs only [go_sem, start, startE, resVs, resV, resC, allV, retK, Nat.reduceBEq, Nat.reduceAdd, Nat.reduceMul, Nat.reduceLeDiff, Nat.reduceEqDiff, Nat.reduceBNe, Nat.ble_eq, UInt8.reduceToNat, set_ne nB0B0_last_, set_ne nB0B0_last_.symm, set_comm nB0B0_last_, set_ne nB0B0_prev_, set_ne nB0B0_prev_.symm, set_comm nB0B0_prev_, set_ne nB0_last_B0_prev_, set_ne nB0_last_B0_prev_.symm, set_comm nB0_last_B0_prev_]) (by simp -implicitDefEqProofs only [go_sem, start, startE, resVs, resV, resC, allV, retK, Nat.reduceBEq, Nat.reduceAdd, Nat.reduceMul, Nat.reduceLeDiff, Nat.reduceEqDiff, Nat.reduceBNe, Nat.ble_eq, UInt8.reduceToNat, set_ne nB0B0_last_, set_ne nB0B0_last_.symm, set_comm nB0B0_last_, set_ne nB0B0_prev_, set_ne nB0B0_prev_.symm, set_comm nB0B0_prev_, set_ne nB0_last_B0_prev_, set_ne nB0_last_B0_prev_.symm, set_comm nB0_last_B0_prev_]) nB0B0_last_ nB0B0_prev_ nB0_last_B0_prev_ h) (fun _ => rfl) (fun r1 => ?_)
    | ((with_reducible refine join_to (fun (o4 : lz_finder) => ⟨[(0, .ref B0 0), (1, .int .i64 i_1), (4, .loc [.int .u8 r1.1.a0.toNat, .int .u8 r1.1.a1.toNat, .int .u8 r1.1.a2.toNat])], [], (((s.set B0 (.cells [.sl false 1 o4.b_.length (flat o4.b_), .mp B0_last_, .arr B0_prev_ 0 o4.prev_.n o4.prev_.n])).set B0_last_ (.map (encM ek_arr3_UInt8_Int ev_arr3_UInt8_Int o4.last_))).set B0_prev_ (.cells (flat o4.prev_.l)))⟩) (fun J => ?_) ?_); rotate_left; rintro o4)
    | simp -implicitDefEqProofs only [go_sem, start, startE, resVs, resV, resC, allV, retK, Nat.reduceBEq, Nat.reduceAdd, Nat.reduceMul, Nat.reduceLeDiff, Nat.reduceEqDiff, Nat.reduceBNe, Nat.ble_eq, UInt8.reduceToNat, set_ne nB0B0_last_, set_ne nB0B0_last_.symm, set_comm nB0B0_last_, set_ne nB0B0_prev_, set_ne nB0B0_prev_.symm, set_comm nB0B0_prev_, set_ne nB0_last_B0_prev_, set_ne nB0_last_B0_prev_.symm, set_comm nB0_last_B0_prev_])

/-- catchword/lz.Tokens -/
def lz_Tokens (b_0 : (List UInt8)) : Option ((List lz_Token)) :=
  if decide ((b_0.length : Int) > 16777216) then
    some ([] : List lz_Token)
  else
    need (0 ≤ (b_0.length : Int)) <|
    need ((b_0.length : Int) ≤ (b_0.length : Int)) <|
    need ((b_0.length : Int) * 8 ≤ (room : Int)) <|
    jn (
      iter (fun ((out3, i4, o5) : (List lz_Token) × Int × lz_finder) =>
        if decide (i4 < (b_0.length : Int)) then
          need (0 ≤ i4 ∧ i4 < b_0.length) <|
          jn (
            bnd (lz_finder_best o5 i4) fun r13 =>
            if decide (r13.1 > 0) then
              some (lz_Token.mk 0 r13.1 r13.2)
            else
              some (lz_Token.mk (ix b_0 i4) 0 0)) fun (t11 : lz_Token) =>
          jn (
            bnd (lz_Token_size t11) fun r19 =>
            iter (fun ((i20, t21, o22) : Int × Int × lz_finder) =>
              if decide (t21 < r19) then
                bnd (lz_finder_note o22 i20) fun r28 =>
                some (.inl (w64 (i20 + 1), w64 (t21 + 1), r28))
              else
                some (.inr (i20, o22))) (i4, 0, o5)) fun ((i16, o18) : Int × lz_finder) =>
          need ((out3.length + [t11].length) * 24 ≤ room) <|
          some (.inl (out3 ++ [t11], i16, o18))
        else
          some (.inr (out3, o5))) (([] : List lz_Token), 0, (lz_finder.mk b_0 [] (MSl.mk (((b_0.length : Int)).toNat) (List.replicate ((b_0.length : Int)).toNat 0))))) fun ((out1, o2) : (List lz_Token) × lz_finder) =>
    some out1
def ir_lz_Tokens : IC :=
 (.seq (.reg none [i1 2 (.mov true (.c (.sl true 3 0 [])))] [0])
 (.seq (.seq (.reg none [mv 9 0,
 i1 10 (.len 0 (.t 9)),
 i1 11 (.bin .gtr (.t 10) (.c (.int .i64 16777216)))] [0, 11])
 (.cond (.t 11) (.seq (.reg none [i1 2 (.mov true (.c (.sl true 3 0 [])))] [2])
 .ret)
 .skip))
 (.seq (.reg none [mv 12 0,
 i1 13 (.makeMap),
 mv 14 0,
 i1 15 (.len 0 (.t 14)),
 i1 16 (.makeSl 1 8 [.int .i64 0] (.t 15) (.t 15)),
 i1 17 (.build [.sl true 1 0 [], .nilm, .sl true 1 0 []] [(0, 1, (.t 12)), (1, 1, (.t 13)), (2, 1, (.t 16))]),
 i1 18 (.boxS 3 (.t 17)),
 mv 3 18] [0, 3])
 (.seq (.reg none [i1 4 (.mov true (.c (.sl true 3 0 [])))] [0, 3, 4])
 (.join [(4, false)] (.seq (.reg none [i1 5 (.mov false (.c (.int .i64 0)))] [0, 3, 4, 5])
 (.block 0 (.loop [(0, true), (3, false), (4, false), (5, false)] (.seq (.seq (.reg none [mv 19 5,
 mv 20 0,
 i1 21 (.len 0 (.t 20)),
 i1 22 (.bin .lss (.t 19) (.t 21))] [0, 3, 4, 5, 22])
 (.cond (.t 22) .skip
 (.exit 0)))
 (.block 1 (.seq (.reg none [mv 23 0,
 mv 24 5,
 i1 25 (.indexAddr [.int .u8 0] (.t 23) (.t 24)),
 i1 26 (.load 1 false (.t 25)),
 i1 27 (.build [.int .u8 0, .int .i64 0, .int .i64 0] [(0, 1, (.t 26))]),
 i1 6 (.allocL [.int .u8 0, .int .i64 0, .int .i64 0]),
 i0 (.store 3 (.t 6) (.t 27))] [0, 3, 4, 5, 6])
 (.join [(0, true), (3, false), (4, false), (5, false), (6, false)] (.seq (.reg none [mv 29 3,
 mv 30 5,
 i1 31 (.call 18 [(.t 29), (.t 30)]),
 i1 28 (.movT (.t 31)),
 i1 32 (.extract (.t 28) 0),
 i1 33 (.extract (.t 28) 1),
 mv 7 32,
 mv 8 33] [0, 3, 4, 5, 6, 7, 8])
 (.seq (.reg none [mv 34 7,
 i1 35 (.bin .gtr (.t 34) (.c (.int .i64 0)))] [0, 3, 4, 5, 6, 7, 8, 35])
 (.cond (.t 35) (.reg none [mv 36 7,
 mv 37 8,
 i1 38 (.build [.int .u8 0, .int .i64 0, .int .i64 0] [(1, 1, (.t 36)), (2, 1, (.t 37))]),
 i0 (.store 3 (.t 6) (.t 38))] [0, 3, 4, 5, 6])
 .skip)))
 (.join [(0, true), (3, false), (4, false), (5, false), (6, false)] (.seq (.reg none [i1 39 (.load 3 true (.t 6)),
 i1 40 (.call 17 [(.t 39)]),
 i1 41 (.mov false (.c (.int .i64 0)))] [0, 3, 4, 5, 6, 40, 41])
 (.block 2 (.loop [(0, true), (3, false), (4, false), (5, false), (6, false), (40, false), (41, false)] (.seq (.reg none [i1 42 (.bin .lss (.t 41) (.t 40))] [0, 3, 4, 5, 6, 40, 41, 42])
 (.seq (.cond (.t 42) .skip
 (.exit 2))
 (.seq (.block 3 (.seq (.reg none [mv 43 3,
 mv 44 5,
 i1 45 (.call 19 [(.t 43), (.t 44)])] [0, 3, 4, 5, 6, 40, 41])
 (.reg none [mv 46 5,
 i1 47 (.bin .add (.t 46) (.c (.int .i64 1))),
 mv 5 47] [0, 3, 4, 5, 6, 40, 41])))
 (.reg none [i1 48 (.bin .add (.t 41) (.c (.int .i64 1))),
 mv 41 48] [0, 3, 4, 5, 6, 40, 41])))))))
 (.reg none [mt 49 4,
 i1 50 (.load 3 true (.t 6)),
 i1 51 (.buildSl 3 1 [.int .u8 0, .int .i64 0, .int .i64 0] [(0, 3, (.t 50))]),
 i1 52 (.append 3 24 (.t 49) (.t 51)),
 mt 4 52] [0, 3, 4, 5])))))))))
 (.seq (.reg none [mt 53 4,
 mt 2 53] [2])
 .ret))))))
def res_lz_Tokens : List IRes := [⟨2, true, none⟩]
theorem is_lz_Tokens : fnIs Go.Proofs.Try.prog 12 54 res_lz_Tokens ir_lz_Tokens = true := by kernel_rfl
theorem lz_Tokens_fn {b_0} {s : Store} {Q : List AV → Store → Prop}  : ok (lz_Tokens b_0) (fun r => Q [.sl true 3 r.length (flat r)] s) → FN Go.Proofs.Try.prog 12 [.sl false 1 b_0.length (flat b_0)] s Q := by
  intro h
  refine FN.forget ?_
  refine FN.of (draw_ok mix) is_lz_Tokens rfl (Nat.le_of_ble_eq_true rfl) ?_
  revert h
  rw [ir_lz_Tokens, res_lz_Tokens, lz_Tokens]
  repeat' (first
    | with_reducible exact tt_to
    | with_reducible refine and_to ?_ ?_
    | with_reducible refine im_to ?_
    | with_reducible refine call_to (fun _ (h : lz_finder_best o5 i4 = some _) => lz_finder_best_fe (B0 := N3) (B0_last_ := N1) (B0_prev_ := N2) (by simp -implicitDefEqProofs only [go_sem, start, startE, resVs, resV, resC, allV, retK, Nat.reduceBEq, Nat.reduceAdd, Nat.reduceMul, Nat.reduceLeDiff, Nat.reduceEqDiff, Nat.reduceBNe, Nat.ble_eq, UInt8.reduceToNat, set_ne nN2N1, set_ne nN2N1.symm, set_comm nN2N1.symm, set_ne nN3N1, set_ne nN3N1.symm, set_comm nN3N1.symm, set_ne nN3N2, set_ne nN3N2.symm, set_comm nN3N2.symm]) (by simp -implicitDefEqProofs only [go_sem, start, startE, resVs, resV, resC, allV, retK, Nat.reduceBEq, Nat.reduceAdd, Nat.reduceMul, Nat.reduceLeDiff, Nat.reduceEqDiff, Nat.reduceBNe, Nat.ble_eq, UInt8.reduceToNat, set_ne nN2N1, set_ne nN2N1.symm, set_comm nN2N1.symm, set_ne nN3N1, set_ne nN3N1.symm, set_comm nN3N1.symm, set_ne nN3N2, set_ne nN3N2.symm, set_comm nN3N2.symm]) (by simp -implicitDefEqProofs only [go_sem, start, startE, resVs, resV, resC, allV, retK, Nat.reduceBEq, Nat.reduceAdd, Nat.reduceMul, Nat.reduceLeDiff, Nat.reduceEqDiff, Nat.reduceBNe, Nat.ble_eq, UInt8.reduceToNat, set_ne nN2N1, set_ne nN2N1.symm, set_comm nN2N1.symm, set_ne nN3N1, set_ne nN3N1.symm, set_comm nN3N1.symm, set_ne nN3N2, set_ne nN3N2.symm, set_comm nN3N2.symm]) nN3N1 nN3N2 nN2N1.symm h) (fun r13 => ?_)
    | with_reducible refine call_to_q (fun _ (h : lz_finder_best o5 i4 = some _) => lz_finder_best_fe (B0 := N3) (B0_last_ := N1) (B0_prev_ := N2) (by simp -implicitDefEqProofs only [go_sem, start, startE, resVs, resV, resC, allV, retK, Nat.reduceBEq, Nat.reduceAdd, Nat.reduceMul, Nat.reduceLeDiff, Nat.reduceEqDiff, Nat.reduceBNe, Nat.ble_eq, UInt8.reduceToNat, set_ne nN2N1, set_ne nN2N1.symm, set_comm nN2N1.symm, set_ne nN3N1, set_ne nN3N1.symm, set_comm nN3N1.symm, set_ne nN3N2, set_ne nN3N2.symm, set_comm nN3N2.symm]) (by simp -implicitDefEqProofs only [go_sem, start, startE, resVs, resV, resC, allV, retK, Nat.reduceBEq, Nat.reduceAdd, Nat.reduceMul, Nat.reduceLeDiff, Nat.reduceEqDiff, Nat.reduceBNe, Nat.ble_eq, UInt8.reduceToNat, set_ne nN2N1, set_ne nN2N1.symm, set_comm nN2N1.symm, set_ne nN3N1, set_ne nN3N1.symm, set_comm nN3N1.symm, set_ne nN3N2, set_ne nN3N2.symm, set_comm nN3N2.symm]) (by simp -implicitDefEqProofs only [go_sem, start, startE, resVs, resV, resC, allV, retK, Nat.reduceBEq, Nat.reduceAdd, Nat.reduceMul, Nat.reduceLeDiff, Nat.reduceEqDiff, Nat.reduceBNe, Nat.ble_eq, UInt8.reduceToNat, set_ne nN2N1, set_ne nN2N1.symm, set_comm nN2N1.symm, set_ne nN3N1, set_ne nN3N1.symm, set_comm nN3N1.symm, set_ne nN3N2, set_ne nN3N2.symm, set_comm nN3N2.symm]) nN3N1 nN3N2 nN2N1.symm h) (fun _ => rfl) (fun r13 => ?_)
    | with_reducible refine call_to (fun _ (h : lz_Token_size t11 = some _) => lz_Token_size_fe h) (fun r19 => ?_)
    | with_reducible refine call_to_q (fun _ (h : lz_Token_size t11 = some _) => lz_Token_size_fe h) (fun _ => rfl) (fun r19 => ?_)
    | with_reducible refine call_to (fun _ (h : lz_Token_size t11 = some _) => (by have hx := lz_Token_size_fe (s := s) h; simp -implicitDefEqProofs only [go_sem, start, startE, resVs, resV, resC, allV, retK, Nat.reduceBEq, Nat.reduceAdd, Nat.reduceMul, Nat.reduceLeDiff, Nat.reduceEqDiff, Nat.reduceBNe, Nat.ble_eq, UInt8.reduceToNat] at hx; exact hx)) (fun r19 => ?_)
    | with_reducible refine call_to_q (fun _ (h : lz_Token_size t11 = some _) => (by have hx := lz_Token_size_fe (s := s) h; simp -implicitDefEqProofs only [go_sem, start, startE, resVs, resV, resC, allV, retK, Nat.reduceBEq, Nat.reduceAdd, Nat.reduceMul, Nat.reduceLeDiff, Nat.reduceEqDiff, Nat.reduceBNe, Nat.ble_eq, UInt8.reduceToNat] at hx; exact hx)) (fun _ => rfl) (fun r19 => ?_)
    | with_reducible refine fun hh => lz_finder_note_fn (B0 := N3) (B0_last_ := N1) (B0_prev_ := N2) (by simp -implicitDefEqProofs only [go_sem, start, startE, resVs, resV, resC, allV, retK, Nat.reduceBEq, Nat.reduceAdd, Nat.reduceMul, Nat.reduceLeDiff, Nat.reduceEqDiff, Nat.reduceBNe, Nat.ble_eq, UInt8.reduceToNat, set_ne nN2N1, set_ne nN2N1.symm, set_comm nN2N1.symm, set_ne nN3N1, set_ne nN3N1.symm, set_comm nN3N1.symm, set_ne nN3N2, set_ne nN3N2.symm, set_comm nN3N2.symm]) (by simp -implicitDefEqProofs only [go_sem, start, startE, resVs, resV, resC, allV, retK, Nat.reduceBEq, Nat.reduceAdd, Nat.reduceMul, Nat.reduceLeDiff, Nat.reduceEqDiff, Nat.reduceBNe, Nat.ble_eq, UInt8.reduceToNat, set_ne nN2N1, set_ne nN2N1.symm, set_comm nN2N1.symm, set_ne nN3N1, set_ne nN3N1.symm, set_comm nN3N1.symm, set_ne nN3N2, set_ne nN3N2.symm, set_comm nN3N2.symm]) (by simp -implicitDefEqProofs only [go_sem, start, startE, resVs, resV, resC, allV, retK, Nat.reduceBEq, Nat.reduceAdd, Nat.reduceMul, Nat.reduceLeDiff, Nat.reduceEqDiff, Nat.reduceBNe, Nat.ble_eq, UInt8.reduceToNat, set_ne nN2N1, set_ne nN2N1.symm, set_comm nN2N1.symm, set_ne nN3N1, set_ne nN3N1.symm, set_comm nN3N1.symm, set_ne nN3N2, set_ne nN3N2.symm, set_comm nN3N2.symm]) nN3N1 nN3N2 nN2N1.symm (ok_mono (show ok (lz_finder_note o22 i20) _ from hh) fun r28 => ?_)
    | ((with_reducible refine join_to (fun (t11 : lz_Token) => ⟨[(0, .sl false 1 b_0.length (flat b_0)), (3, .ref N3 0), (4, .sl true 3 out3.length (flat out3)), (5, .int .i64 i4), (6, .loc [.int .u8 t11.Byte.toNat, .int .i64 t11.Length, .int .i64 t11.Far])], [], (((s.set N1 (.map (encM ek_arr3_UInt8_Int ev_arr3_UInt8_Int o5.last_))).set N2 (.cells (flat o5.prev_.l))).set N3 (.cells [.sl false 1 o5.b_.length (flat o5.b_), .mp N1, .arr N2 0 o5.prev_.n o5.prev_.n]))⟩) (fun J => ?_) ?_); rotate_left; rintro t11)
    | ((with_reducible refine iter_to (fun ((i20, t21, o22) : Int × Int × lz_finder) => ⟨[(0, .sl false 1 b_0.length (flat b_0)), (3, .ref N3 0), (4, .sl true 3 out3.length (flat out3)), (5, .int .i64 i20), (6, .loc [.int .u8 t11.Byte.toNat, .int .i64 t11.Length, .int .i64 t11.Far]), (40, .int .i64 r19), (41, .int .i64 t21)], [], (((s.set N1 (.map (encM ek_arr3_UInt8_Int ev_arr3_UInt8_Int o22.last_))).set N2 (.cells (flat o22.prev_.l))).set N3 (.cells [.sl false 1 o22.b_.length (flat o22.b_), .mp N1, .arr N2 0 o22.prev_.n o22.prev_.n]))⟩) ?_ ?_); exact rfl; rintro J ⟨i20, t21, o22⟩)
    | ((with_reducible refine join_to (fun ((i16, o18) : Int × lz_finder) => ⟨[(0, .sl false 1 b_0.length (flat b_0)), (3, .ref N3 0), (4, .sl true 3 out3.length (flat out3)), (5, .int .i64 i16), (6, .loc [.int .u8 t11.Byte.toNat, .int .i64 t11.Length, .int .i64 t11.Far])], [], (((s.set N1 (.map (encM ek_arr3_UInt8_Int ev_arr3_UInt8_Int o18.last_))).set N2 (.cells (flat o18.prev_.l))).set N3 (.cells [.sl false 1 o18.b_.length (flat o18.b_), .mp N1, .arr N2 0 o18.prev_.n o18.prev_.n]))⟩) (fun J => ?_) ?_); rotate_left; rintro ⟨i16, o18⟩)
    | ((with_reducible refine iter_to (fun ((out3, i4, o5) : (List lz_Token) × Int × lz_finder) => ⟨[(0, .sl false 1 b_0.length (flat b_0)), (3, .ref N3 0), (4, .sl true 3 out3.length (flat out3)), (5, .int .i64 i4)], [], (((s.set N1 (.map (encM ek_arr3_UInt8_Int ev_arr3_UInt8_Int o5.last_))).set N2 (.cells (flat o5.prev_.l))).set N3 (.cells [.sl false 1 o5.b_.length (flat o5.b_), .mp N1, .arr N2 0 o5.prev_.n o5.prev_.n]))⟩) ?_ ?_); exact rfl; rintro J ⟨out3, i4, o5⟩)
    | ((with_reducible refine join_to (fun ((out1, o2) : (List lz_Token) × lz_finder) => ⟨[(4, .sl true 3 out1.length (flat out1))], [], (((s.set N1 (.map (encM ek_arr3_UInt8_Int ev_arr3_UInt8_Int o2.last_))).set N2 (.cells (flat o2.prev_.l))).set N3 (.cells [.sl false 1 o2.b_.length (flat o2.b_), .mp N1, .arr N2 0 o2.prev_.n o2.prev_.n]))⟩) (fun J => ?_) ?_); rotate_left; rintro ⟨out1, o2⟩)
    | ((fail_if_success (have _x := sN1)); intro hh N1 hN1; (try simp only [set_none] at hN1); have sN1 := hN1; revert hh)
    | (have _x := sN1; clear _x; (fail_if_success (have _x := sN2)); intro hh N2 hN2; (try simp only [set_none] at hN2); obtain ⟨nN2N1, sN2⟩ := hN2; revert hh)
    | (have _x := sN2; clear _x; (fail_if_success (have _x := sN3)); intro hh N3 hN3; (try simp only [set_none] at hN3); obtain ⟨nN3N2, nN3N1, sN3⟩ := hN3; revert hh)
    | with_reducible exact fun hh => ⟨_, SubS.set (SubS.set (SubS.set (SubS.refl _) (by simp [Store.set, sN1])) (by simp [Store.set, sN2])) (by simp [Store.set, sN3]), hh⟩
    | with_reducible exact fun hh => ⟨_, SubS.set (SubS.set (SubS.refl _) (by simp [Store.set, sN1])) (by simp [Store.set, sN2]), hh⟩
    | with_reducible exact fun hh => ⟨_, SubS.set (SubS.refl _) (by simp [Store.set, sN1]), hh⟩
    | with_reducible exact fun hh => ⟨_, SubS.refl _, hh⟩
    | simp -implicitDefEqProofs only [go_sem, start, startE, resVs, resV, resC, allV, retK, Nat.reduceBEq, Nat.reduceAdd, Nat.reduceMul, Nat.reduceLeDiff, Nat.reduceEqDiff, Nat.reduceBNe, Nat.ble_eq, UInt8.reduceToNat, set_ne nN2N1, set_ne nN2N1.symm, set_comm nN2N1.symm, set_ne nN3N1, set_ne nN3N1.symm, set_comm nN3N1.symm, set_ne nN3N2, set_ne nN3N2.symm, set_comm nN3N2.symm]
    | simp -implicitDefEqProofs only [go_sem, start, startE, resVs, resV, resC, allV, retK, Nat.reduceBEq, Nat.reduceAdd, Nat.reduceMul, Nat.reduceLeDiff, Nat.reduceEqDiff, Nat.reduceBNe, Nat.ble_eq, UInt8.reduceToNat, set_ne nN2N1, set_ne nN2N1.symm, set_comm nN2N1.symm]
    | simp -implicitDefEqProofs only [go_sem, start, startE, resVs, resV, resC, allV, retK, Nat.reduceBEq, Nat.reduceAdd, Nat.reduceMul, Nat.reduceLeDiff, Nat.reduceEqDiff, Nat.reduceBNe, Nat.ble_eq, UInt8.reduceToNat]
    | simp -implicitDefEqProofs only [go_sem, start, startE, resVs, resV, resC, allV, retK, Nat.reduceBEq, Nat.reduceAdd, Nat.reduceMul, Nat.reduceLeDiff, Nat.reduceEqDiff, Nat.reduceBNe, Nat.ble_eq, UInt8.reduceToNat])
theorem lz_Tokens_fe {b_0} {s : Store} {r : (List lz_Token)}  (h : lz_Tokens b_0 = some r) : FE Go.Proofs.Try.prog 12 [.sl false 1 b_0.length (flat b_0)] s [.sl true 3 r.length (flat r)] s := lz_Tokens_fn   ⟨r, h, rfl, rfl⟩

/-- catchword/lz.Expand -/
def lz_Expand (l_0 : (List lz_Token)) (limit_1 : Int) : Option ((List UInt8) × Int) :=
  if (decide (limit_1 < 0)) || (decide (limit_1 > 16777216)) then
    some (([] : List UInt8), 2)
  else
    jnS (
      bndS (
        iter (fun ((out4, t5) : (List UInt8) × Int) =>
          if decide (t5 < (l_0.length : Int)) then
            jnS (
              need (0 ≤ t5 ∧ t5 < l_0.length) <|
              bnd (lz_Token_may (ix l_0 t5)) fun r16 =>
              if !r16 then
                some (.inr (([] : List UInt8), 2))
              else
                if decide ((ix l_0 t5).Far > (out4.length : Int)) then
                  some (.inr (([] : List UInt8), 14))
                else
                  bnd (lz_Token_size (ix l_0 t5)) fun r17 =>
                  if decide (r17 > w64 (limit_1 - (out4.length : Int))) then
                    some (.inr (([] : List UInt8), 3))
                  else
                    jn (
                      if ((ix l_0 t5).Length) == 0 then
                        need ((out4.length + [(ix l_0 t5).Byte].length) * 1 ≤ room) <|
                        some (out4 ++ [(ix l_0 t5).Byte])
                      else
                        some out4) fun (out19 : (List UInt8)) =>
                    bnd (
                      iter (fun ((out24, t25) : (List UInt8) × Int) =>
                        if decide (t25 < (ix l_0 t5).Length) then
                          need (0 ≤ w64 ((out24.length : Int) - ((ix l_0 t5).Far)) ∧ w64 ((out24.length : Int) - ((ix l_0 t5).Far)) < out24.length) <|
                          need ((out24.length + [ix out24 (w64 ((out24.length : Int) - ((ix l_0 t5).Far)))].length) * 1 ≤ room) <|
                          some (.inl (out24 ++ [ix out24 (w64 ((out24.length : Int) - ((ix l_0 t5).Far)))], w64 (t25 + 1)))
                        else
                          some (.inr out24)) (out19, 0)) fun (out27 : (List UInt8)) =>
                    some (.inl out27)) (fun (out10 : (List UInt8)) =>
              some (.inl (out10, w64 (t5 + 1))))
            (fun ((t14, t15) : (List UInt8) × Int) => some (.inr (.inr (t14, t15))))
          else
            some (.inr (.inl out4))) (([] : List UInt8), 0)) (fun (out6 : (List UInt8)) =>
        some (.inl out6))
      (fun ((t7, t8) : (List UInt8) × Int) => some (.inr (t7, t8)))) (fun (out1 : (List UInt8)) =>
      some (out1, 0))
    (fun ((t2, t3) : (List UInt8) × Int) => some (t2, t3))
def ir_lz_Expand : IC :=
 (.seq (.reg none [i1 4 (.mov true (.c (.sl true 1 0 []))),
 i1 5 (.mov false (.c (.int .i64 0)))] [0, 1])
 (.seq (.seq (.reg none [mv 9 1,
 i1 10 (.bin .lss (.t 9) (.c (.int .i64 0))),
 mv 11 10,
 mvg 12 1 11 false,
 i1g 13 11 false (.bin .gtr (.t 12) (.c (.int .i64 16777216))),
 i1 14 (.pick (.t 11) (.c (.bool true)) (.t 13))] [0, 1, 14])
 (.cond (.t 14) (.seq (.reg none [i1 4 (.mov true (.c (.sl true 1 0 []))),
 i1 5 (.mov false (.c (.int .i64 2)))] [4, 5])
 .ret)
 .skip))
 (.seq (.reg none [i1 6 (.mov true (.c (.sl true 1 0 [])))] [0, 1, 6])
 (.join [(6, false)] (.seq (.reg none [mt 15 0,
 i1 16 (.len 0 (.t 15)),
 i1 17 (.mov false (.c (.int .i64 0)))] [1, 6, 15, 16, 17])
 (.block 0 (.loop [(1, false), (6, false), (15, true), (16, false), (17, false)] (.seq (.reg none [i1 18 (.bin .lss (.t 17) (.t 16))] [1, 6, 15, 16, 17, 18])
 (.seq (.cond (.t 18) .skip
 (.exit 0))
 (.join [(1, false), (6, false), (15, true), (16, false), (17, false)] (.block 1 (.seq (.reg none [i1 19 (.indexAddr [.int .u8 0, .int .i64 0, .int .i64 0] (.t 15) (.t 17)),
 i1 20 (.load 3 true (.t 19)),
 i1 8 (.allocL [.int .u8 0, .int .i64 0, .int .i64 0]),
 i0 (.store 3 (.t 8) (.t 20))] [1, 6, 8, 15, 16, 17])
 (.seq (.block 2 (.seq (.reg none [i1 22 (.load 3 true (.t 8)),
 i1 23 (.call 16 [(.t 22)]),
 i1 24 (.un .not (.t 23)),
 mv 21 24] [1, 6, 8, 15, 16, 17, 21])
 (.cond (.t 21) (.seq (.reg none [i1 4 (.mov true (.c (.sl true 1 0 []))),
 i1 5 (.mov false (.c (.int .i64 2)))] [4, 5])
 .ret)
 (.seq (.reg none [i1 26 (.fieldAddr 2 (.t 8)),
 i1 27 (.load 1 false (.t 26)),
 mv 28 6,
 i1 29 (.len 0 (.t 28)),
 i1 30 (.bin .gtr (.t 27) (.t 29)),
 mv 25 30] [1, 6, 8, 15, 16, 17, 25])
 (.cond (.t 25) (.seq (.reg none [i1 4 (.mov true (.c (.sl true 1 0 []))),
 i1 5 (.mov false (.c (.int .i64 14)))] [4, 5])
 .ret)
 (.seq (.reg none [i1 32 (.load 3 true (.t 8)),
 i1 33 (.call 17 [(.t 32)]),
 mv 34 1,
 mv 35 6,
 i1 36 (.len 0 (.t 35)),
 i1 37 (.bin .sub (.t 34) (.t 36)),
 i1 38 (.bin .gtr (.t 33) (.t 37)),
 mv 31 38] [1, 6, 8, 15, 16, 17, 31])
 (.cond (.t 31) (.seq (.reg none [i1 4 (.mov true (.c (.sl true 1 0 []))),
 i1 5 (.mov false (.c (.int .i64 3)))] [4, 5])
 .ret)
 .skip)))))))
 (.join [(1, false), (6, false), (8, false), (15, true), (16, false), (17, false)] (.seq (.reg none [i1 39 (.fieldAddr 1 (.t 8)),
 i1 40 (.load 1 false (.t 39)),
 i1 41 (.bin .eql (.t 40) (.c (.int .i64 0)))] [1, 6, 8, 15, 16, 17, 41])
 (.cond (.t 41) (.reg none [mt 42 6,
 i1 43 (.fieldAddr 0 (.t 8)),
 i1 44 (.load 1 false (.t 43)),
 i1 45 (.buildSl 1 1 [.int .u8 0] [(0, 1, (.t 44))]),
 i1 46 (.append 1 1 (.t 42) (.t 45)),
 mt 6 46] [1, 6, 8, 15, 16, 17])
 .skip))
 (.seq (.reg none [i1 47 (.fieldAddr 1 (.t 8)),
 i1 48 (.load 1 false (.t 47)),
 i1 49 (.mov false (.c (.int .i64 0)))] [1, 6, 8, 15, 16, 17, 48, 49])
 (.block 3 (.loop [(1, false), (6, false), (8, false), (15, true), (16, false), (17, false), (48, false), (49, false)] (.seq (.reg none [i1 50 (.bin .lss (.t 49) (.t 48))] [1, 6, 8, 15, 16, 17, 48, 49, 50])
 (.seq (.cond (.t 50) .skip
 (.exit 3))
 (.seq (.block 4 (.reg none [mt 51 6,
 mv 52 6,
 mt 53 6,
 i1 54 (.len 0 (.t 53)),
 i1 55 (.fieldAddr 2 (.t 8)),
 i1 56 (.load 1 false (.t 55)),
 i1 57 (.bin .sub (.t 54) (.t 56)),
 i1 58 (.indexAddr [.int .u8 0] (.t 52) (.t 57)),
 i1 59 (.load 1 false (.t 58)),
 i1 60 (.buildSl 1 1 [.int .u8 0] [(0, 1, (.t 59))]),
 i1 61 (.append 1 1 (.t 51) (.t 60)),
 mt 6 61] [1, 6, 8, 15, 16, 17, 48, 49]))
 (.reg none [i1 62 (.bin .add (.t 49) (.c (.int .i64 1))),
 mv 49 62] [1, 6, 8, 15, 16, 17, 48, 49])))))))))))
 (.reg none [i1 63 (.bin .add (.t 17) (.c (.int .i64 1))),
 mv 17 63] [1, 6, 15, 16, 17])))))))
 (.seq (.reg none [mt 64 6,
 mt 4 64,
 i1 5 (.mov false (.c (.int .i64 0)))] [4, 5])
 .ret)))))
def res_lz_Expand : List IRes := [⟨4, true, none⟩, ⟨5, true, none⟩]
theorem is_lz_Expand : fnIs Go.Proofs.Try.prog 8 65 res_lz_Expand ir_lz_Expand = true := by kernel_rfl
theorem lz_Expand_fn {l_0 limit_1} {s : Store} {Q : List AV → Store → Prop}  : ok (lz_Expand l_0 limit_1) (fun r => Q [.sl true 1 r.1.length (flat r.1), .int .i64 r.2] s) → FN Go.Proofs.Try.prog 8 [.sl false 3 l_0.length (flat l_0), .int .i64 limit_1] s Q := by
  intro h
  refine FN.of (draw_ok mix) is_lz_Expand rfl (Nat.le_of_ble_eq_true rfl) ?_
  revert h
  rw [ir_lz_Expand, res_lz_Expand, lz_Expand]
  repeat' (first
    | with_reducible exact tt_to
    | with_reducible refine and_to ?_ ?_
    | with_reducible refine im_to ?_
    | with_reducible refine call_to (fun _ (h : lz_Token_may (ix l_0 t5) = some _) => lz_Token_may_fe h) (fun r16 => ?_)
    | with_reducible refine call_to_q (fun _ (h : lz_Token_may (ix l_0 t5) = some _) => lz_Token_may_fe h) (fun _ => rfl) (fun r16 => ?_)
    | with_reducible refine call_to (fun _ (h : lz_Token_may (ix l_0 t5) = some _) => (by have hx := lz_Token_may_fe (s := s) h; simp -implicitDefEqProofs only [go_sem, start, startE, resVs, resV, resC, allV, retK, Nat.reduceBEq, Nat.reduceAdd, Nat.reduceMul, Nat.reduceLeDiff, Nat.reduceEqDiff, Nat.reduceBNe, Nat.ble_eq, UInt8.reduceToNat] at hx; exact hx)) (fun r16 => ?_)
    | with_reducible refine call_to_q (fun _ (h : lz_Token_may (ix l_0 t5) = some _) => (by have hx := lz_Token_may_fe (s := s) h; simp -implicitDefEqProofs only [go_sem, start, startE, resVs, resV, resC, allV, retK, Nat.reduceBEq, Nat.reduceAdd, Nat.reduceMul, Nat.reduceLeDiff, Nat.reduceEqDiff, Nat.reduceBNe, Nat.ble_eq, UInt8.reduceToNat] at hx; exact hx)) (fun _ => rfl) (fun r16 => ?_)
    | with_reducible refine call_to (fun _ (h : lz_Token_size (ix l_0 t5) = some _) => lz_Token_size_fe h) (fun r17 => ?_)
    | with_reducible refine call_to_q (fun _ (h : lz_Token_size (ix l_0 t5) = some _) => lz_Token_size_fe h) (fun _ => rfl) (fun r17 => ?_)
    | with_reducible refine call_to (fun _ (h : lz_Token_size (ix l_0 t5) = some _) => (by have hx := lz_Token_size_fe (s := s) h; simp -implicitDefEqProofs only [go_sem, start, startE, resVs, resV, resC, allV, retK, Nat.reduceBEq, Nat.reduceAdd, Nat.reduceMul, Nat.reduceLeDiff, Nat.reduceEqDiff, Nat.reduceBNe, Nat.ble_eq, UInt8.reduceToNat] at hx; exact hx)) (fun r17 => ?_)
    | with_reducible refine call_to_q (fun _ (h : lz_Token_size (ix l_0 t5) = some _) => (by have hx := lz_Token_size_fe (s := s) h; simp -implicitDefEqProofs only [go_sem, start, startE, resVs, resV, resC, allV, retK, Nat.reduceBEq, Nat.reduceAdd, Nat.reduceMul, Nat.reduceLeDiff, Nat.reduceEqDiff, Nat.reduceBNe, Nat.ble_eq, UInt8.reduceToNat] at hx; exact hx)) (fun _ => rfl) (fun r17 => ?_)
    | ((with_reducible refine join_to (fun (out19 : (List UInt8)) => ⟨[(1, .int .i64 limit_1), (6, .sl true 1 out19.length (flat out19)), (8, .loc [.int .u8 ((ix l_0 t5).Byte).toNat, .int .i64 ((ix l_0 t5).Length), .int .i64 ((ix l_0 t5).Far)]), (15, .sl false 3 l_0.length (flat l_0)), (16, .int .i64 (l_0.length : Int)), (17, .int .i64 t5)], [], s⟩) (fun J => ?_) ?_); rotate_left; rintro out19)
    | ((with_reducible refine iter_to (fun ((out24, t25) : (List UInt8) × Int) => ⟨[(1, .int .i64 limit_1), (6, .sl true 1 out24.length (flat out24)), (8, .loc [.int .u8 ((ix l_0 t5).Byte).toNat, .int .i64 ((ix l_0 t5).Length), .int .i64 ((ix l_0 t5).Far)]), (15, .sl false 3 l_0.length (flat l_0)), (16, .int .i64 (l_0.length : Int)), (17, .int .i64 t5), (48, .int .i64 ((ix l_0 t5).Length)), (49, .int .i64 t25)], [], s⟩) ?_ ?_); exact rfl; rintro J ⟨out24, t25⟩)
    | ((with_reducible refine join_toS (fun (out10 : (List UInt8)) => ⟨[(1, .int .i64 limit_1), (6, .sl true 1 out10.length (flat out10)), (15, .sl false 3 l_0.length (flat l_0)), (16, .int .i64 (l_0.length : Int)), (17, .int .i64 t5)], [], s⟩) (fun J => ?_) ?_); rotate_left; rintro out10)
    | ((with_reducible refine iter_to (fun ((out4, t5) : (List UInt8) × Int) => ⟨[(1, .int .i64 limit_1), (6, .sl true 1 out4.length (flat out4)), (15, .sl false 3 l_0.length (flat l_0)), (16, .int .i64 (l_0.length : Int)), (17, .int .i64 t5)], [], s⟩) ?_ ?_); exact rfl; rintro J ⟨out4, t5⟩)
    | ((with_reducible refine join_toS (fun (out1 : (List UInt8)) => ⟨[(6, .sl true 1 out1.length (flat out1))], [], s⟩) (fun J => ?_) ?_); rotate_left; rintro out1)
    | simp -implicitDefEqProofs only [go_sem, start, startE, resVs, resV, resC, allV, retK, Nat.reduceBEq, Nat.reduceAdd, Nat.reduceMul, Nat.reduceLeDiff, Nat.reduceEqDiff, Nat.reduceBNe, Nat.ble_eq, UInt8.reduceToNat])
theorem lz_Expand_fe {l_0 limit_1} {s : Store} {r : (List UInt8) × Int}  (h : lz_Expand l_0 limit_1 = some r) : FE Go.Proofs.Try.prog 8 [.sl false 3 l_0.length (flat l_0), .int .i64 limit_1] s [.sl true 1 r.1.length (flat r.1), .int .i64 r.2] s := lz_Expand_fn   ⟨r, h, rfl, rfl⟩

/-- catchword/lz.Check -/
def lz_Check (l_0 : (List lz_Token)) : Option (Int) :=
  jnS (
    bndS (
      iter (fun ((n2, t3) : Int × Int) =>
        if decide (t3 < (l_0.length : Int)) then
          need (0 ≤ t3 ∧ t3 < l_0.length) <|
          bnd (lz_Token_may (ix l_0 t3)) fun r5 =>
          if !r5 then
            some (.inr (.inr 2))
          else
            if decide ((ix l_0 t3).Far > n2) then
              some (.inr (.inr 14))
            else
              bnd (lz_Token_size (ix l_0 t3)) fun r6 =>
              if decide (r6 > w64 (16777216 - n2)) then
                some (.inr (.inr 3))
              else
                bnd (lz_Token_size (ix l_0 t3)) fun r7 =>
                some (.inl (w64 (n2 + r7), w64 (t3 + 1)))
        else
          some (.inr (.inl ()))) (0, 0)) (fun (_ : Unit) =>
      some (.inl ()))
    (fun (t4 : Int) => some (.inr t4))) (fun (_ : Unit) =>
    some 0)
  (fun (t1 : Int) => some t1)
def ir_lz_Check : IC :=
 (.seq (.reg none [i1 2 (.mov false (.c (.int .i64 0)))] [0])
 (.seq (.reg none [i1 3 (.mov false (.c (.int .i64 0)))] [0, 3])
 (.join [] (.seq (.reg none [mt 6 0,
 i1 7 (.len 0 (.t 6)),
 i1 8 (.mov false (.c (.int .i64 0)))] [3, 6, 7, 8])
 (.block 0 (.loop [(3, false), (6, true), (7, false), (8, false)] (.seq (.reg none [i1 9 (.bin .lss (.t 8) (.t 7))] [3, 6, 7, 8, 9])
 (.seq (.cond (.t 9) .skip
 (.exit 0))
 (.seq (.block 1 (.seq (.reg none [i1 10 (.indexAddr [.int .u8 0, .int .i64 0, .int .i64 0] (.t 6) (.t 8)),
 i1 11 (.load 3 true (.t 10)),
 i1 5 (.allocL [.int .u8 0, .int .i64 0, .int .i64 0]),
 i0 (.store 3 (.t 5) (.t 11))] [3, 5, 6, 7, 8])
 (.seq (.block 2 (.seq (.reg none [i1 13 (.load 3 true (.t 5)),
 i1 14 (.call 16 [(.t 13)]),
 i1 15 (.un .not (.t 14)),
 mv 12 15] [3, 5, 6, 7, 8, 12])
 (.cond (.t 12) (.seq (.reg none [i1 2 (.mov false (.c (.int .i64 2)))] [2])
 .ret)
 (.seq (.reg none [i1 17 (.fieldAddr 2 (.t 5)),
 i1 18 (.load 1 false (.t 17)),
 mv 19 3,
 i1 20 (.bin .gtr (.t 18) (.t 19)),
 mv 16 20] [3, 5, 6, 7, 8, 16])
 (.cond (.t 16) (.seq (.reg none [i1 2 (.mov false (.c (.int .i64 14)))] [2])
 .ret)
 (.seq (.reg none [i1 22 (.load 3 true (.t 5)),
 i1 23 (.call 17 [(.t 22)]),
 mv 24 3,
 i1 25 (.bin .sub (.c (.int .i64 16777216)) (.t 24)),
 i1 26 (.bin .gtr (.t 23) (.t 25)),
 mv 21 26] [3, 5, 6, 7, 8, 21])
 (.cond (.t 21) (.seq (.reg none [i1 2 (.mov false (.c (.int .i64 3)))] [2])
 .ret)
 .skip)))))))
 (.reg none [mv 27 3,
 i1 28 (.load 3 true (.t 5)),
 i1 29 (.call 17 [(.t 28)]),
 i1 30 (.bin .add (.t 27) (.t 29)),
 mv 3 30] [3, 6, 7, 8]))))
 (.reg none [i1 31 (.bin .add (.t 8) (.c (.int .i64 1))),
 mv 8 31] [3, 6, 7, 8])))))))
 (.seq (.reg none [i1 2 (.mov false (.c (.int .i64 0)))] [2])
 .ret))))
def res_lz_Check : List IRes := [⟨2, true, none⟩]
theorem is_lz_Check : fnIs Go.Proofs.Try.prog 11 32 res_lz_Check ir_lz_Check = true := by kernel_rfl
theorem lz_Check_fn {l_0} {s : Store} {Q : List AV → Store → Prop}  : ok (lz_Check l_0) (fun r => Q [.int .i64 r] s) → FN Go.Proofs.Try.prog 11 [.sl false 3 l_0.length (flat l_0)] s Q := by
  intro h
  refine FN.of (draw_ok mix) is_lz_Check rfl (Nat.le_of_ble_eq_true rfl) ?_
  revert h
  rw [ir_lz_Check, res_lz_Check, lz_Check]
  repeat' (first
    | with_reducible exact tt_to
    | with_reducible refine and_to ?_ ?_
    | with_reducible refine im_to ?_
    | with_reducible refine call_to (fun _ (h : lz_Token_may (ix l_0 t3) = some _) => lz_Token_may_fe h) (fun r5 => ?_)
    | with_reducible refine call_to_q (fun _ (h : lz_Token_may (ix l_0 t3) = some _) => lz_Token_may_fe h) (fun _ => rfl) (fun r5 => ?_)
    | with_reducible refine call_to (fun _ (h : lz_Token_may (ix l_0 t3) = some _) => (by have hx := lz_Token_may_fe (s := s) h; simp -implicitDefEqProofs only [go_sem, start, startE, resVs, resV, resC, allV, retK, Nat.reduceBEq, Nat.reduceAdd, Nat.reduceMul, Nat.reduceLeDiff, Nat.reduceEqDiff, Nat.reduceBNe, Nat.ble_eq, UInt8.reduceToNat] at hx; exact hx)) (fun r5 => ?_)
    | with_reducible refine call_to_q (fun _ (h : lz_Token_may (ix l_0 t3) = some _) => (by have hx := lz_Token_may_fe (s := s) h; simp -implicitDefEqProofs only [go_sem, start, startE, resVs, resV, resC, allV, retK, Nat.reduceBEq, Nat.reduceAdd, Nat.reduceMul, Nat.reduceLeDiff, Nat.reduceEqDiff, Nat.reduceBNe, Nat.ble_eq, UInt8.reduceToNat] at hx; exact hx)) (fun _ => rfl) (fun r5 => ?_)
    | with_reducible refine call_to (fun _ (h : lz_Token_size (ix l_0 t3) = some _) => lz_Token_size_fe h) (fun r6 => ?_)
    | with_reducible refine call_to_q (fun _ (h : lz_Token_size (ix l_0 t3) = some _) => lz_Token_size_fe h) (fun _ => rfl) (fun r6 => ?_)
    | with_reducible refine call_to (fun _ (h : lz_Token_size (ix l_0 t3) = some _) => (by have hx := lz_Token_size_fe (s := s) h; simp -implicitDefEqProofs only [go_sem, start, startE, resVs, resV, resC, allV, retK, Nat.reduceBEq, Nat.reduceAdd, Nat.reduceMul, Nat.reduceLeDiff, Nat.reduceEqDiff, Nat.reduceBNe, Nat.ble_eq, UInt8.reduceToNat] at hx; exact hx)) (fun r6 => ?_)
    | with_reducible refine call_to_q (fun _ (h : lz_Token_size (ix l_0 t3) = some _) => (by have hx := lz_Token_size_fe (s := s) h; simp -implicitDefEqProofs only [go_sem, start, startE, resVs, resV, resC, allV, retK, Nat.reduceBEq, Nat.reduceAdd, Nat.reduceMul, Nat.reduceLeDiff, Nat.reduceEqDiff, Nat.reduceBNe, Nat.ble_eq, UInt8.reduceToNat] at hx; exact hx)) (fun _ => rfl) (fun r6 => ?_)
    | with_reducible refine call_to (fun _ (h : lz_Token_size (ix l_0 t3) = some _) => lz_Token_size_fe h) (fun r7 => ?_)
    | with_reducible refine call_to_q (fun _ (h : lz_Token_size (ix l_0 t3) = some _) => lz_Token_size_fe h) (fun _ => rfl) (fun r7 => ?_)
    | with_reducible refine call_to (fun _ (h : lz_Token_size (ix l_0 t3) = some _) => (by have hx := lz_Token_size_fe (s := s) h; simp -implicitDefEqProofs only [go_sem, start, startE, resVs, resV, resC, allV, retK, Nat.reduceBEq, Nat.reduceAdd, Nat.reduceMul, Nat.reduceLeDiff, Nat.reduceEqDiff, Nat.reduceBNe, Nat.ble_eq, UInt8.reduceToNat] at hx; exact hx)) (fun r7 => ?_)
    | with_reducible refine call_to_q (fun _ (h : lz_Token_size (ix l_0 t3) = some _) => (by have hx := lz_Token_size_fe (s := s) h; simp -implicitDefEqProofs only [go_sem, start, startE, resVs, resV, resC, allV, retK, Nat.reduceBEq, Nat.reduceAdd, Nat.reduceMul, Nat.reduceLeDiff, Nat.reduceEqDiff, Nat.reduceBNe, Nat.ble_eq, UInt8.reduceToNat] at hx; exact hx)) (fun _ => rfl) (fun r7 => ?_)
    | ((with_reducible refine iter_to (fun ((n2, t3) : Int × Int) => ⟨[(3, .int .i64 n2), (6, .sl false 3 l_0.length (flat l_0)), (7, .int .i64 (l_0.length : Int)), (8, .int .i64 t3)], [], s⟩) ?_ ?_); exact rfl; rintro J ⟨n2, t3⟩)
    | ((with_reducible refine join_toS (fun (_ : Unit) => ⟨[], [], s⟩) (fun J => ?_) ?_); rotate_left; rintro _)
    | simp -implicitDefEqProofs only [go_sem, start, startE, resVs, resV, resC, allV, retK, Nat.reduceBEq, Nat.reduceAdd, Nat.reduceMul, Nat.reduceLeDiff, Nat.reduceEqDiff, Nat.reduceBNe, Nat.ble_eq, UInt8.reduceToNat])
theorem lz_Check_fe {l_0} {s : Store} {r : Int}  (h : lz_Check l_0 = some r) : FE Go.Proofs.Try.prog 11 [.sl false 3 l_0.length (flat l_0)] s [.int .i64 r] s := lz_Check_fn   ⟨r, h, rfl, rfl⟩

/-- catchword/catchwordlaw06.of -/
def law06_of (l_0 : (List ref06_Token)) : Option ((List lz_Token)) :=
  jn (
    iter (fun ((out2, k3) : (List lz_Token) × Int) =>
      if decide (k3 < (l_0.length : Int)) then
        need (0 ≤ k3 ∧ k3 < l_0.length) <|
        need (0 ≤ k3 ∧ k3 < l_0.length) <|
        need (0 ≤ k3 ∧ k3 < l_0.length) <|
        need ((out2.length + [(lz_Token.mk ((ix l_0 k3).Byte) ((ix l_0 k3).Length) ((ix l_0 k3).Far))].length) * 24 ≤ room) <|
        some (.inl (out2 ++ [(lz_Token.mk ((ix l_0 k3).Byte) ((ix l_0 k3).Length) ((ix l_0 k3).Far))], w64 (k3 + 1)))
      else
        some (.inr out2)) (([] : List lz_Token), 0)) fun (out1 : (List lz_Token)) =>
  some out1
def ir_law06_of : IC :=
 (.seq (.reg none [i1 2 (.mov true (.c (.sl true 3 0 [])))] [0])
 (.seq (.reg none [i1 3 (.mov true (.c (.sl true 3 0 [])))] [0, 3])
 (.join [(3, false)] (.seq (.reg none [i1 4 (.mov false (.c (.int .i64 0)))] [0, 3, 4])
 (.block 0 (.loop [(0, true), (3, false), (4, false)] (.seq (.seq (.reg none [mv 5 4,
 mv 6 0,
 i1 7 (.len 0 (.t 6)),
 i1 8 (.bin .lss (.t 5) (.t 7))] [0, 3, 4, 8])
 (.cond (.t 8) .skip
 (.exit 0)))
 (.seq (.block 1 (.reg (some 18) [mt 11 3,
 mv 12 0,
 mv 13 4,
 i1 14 (.indexAddr [.int .u8 0, .int .i64 0, .int .i64 0] (.t 12) (.t 13)),
 i1 15 (.fieldAddr 0 (.t 14)),
 i1 16 (.load 1 false (.t 15)),
 mv 17 0,
 mv 18 4,
 i1 19 (.indexAddr [.int .u8 0, .int .i64 0, .int .i64 0] (.t 17) (.t 18)),
 i1 20 (.fieldAddr 1 (.t 19)),
 i1 21 (.load 1 false (.t 20)),
 mv 22 0,
 mv 23 4,
 i1 24 (.indexAddr [.int .u8 0, .int .i64 0, .int .i64 0] (.t 22) (.t 23)),
 i1 25 (.fieldAddr 2 (.t 24)),
 i1 26 (.load 1 false (.t 25)),
 i1 27 (.build [.int .u8 0, .int .i64 0, .int .i64 0] [(0, 1, (.t 16)), (1, 1, (.t 21)), (2, 1, (.t 26))]),
 i1 28 (.buildSl 3 1 [.int .u8 0, .int .i64 0, .int .i64 0] [(0, 3, (.t 27))]),
 i1 29 (.append 3 24 (.t 11) (.t 28)),
 mt 3 29] [0, 3, 4]))
 (.reg none [mv 9 4,
 i1 10 (.bin .add (.t 9) (.c (.int .i64 1))),
 mv 4 10] [0, 3, 4]))))))
 (.seq (.reg none [mt 30 3,
 mt 2 30] [2])
 .ret))))
def res_law06_of : List IRes := [⟨2, true, none⟩]
theorem is_law06_of : fnIs Go.Proofs.Try.prog 9 31 res_law06_of ir_law06_of = true := by kernel_rfl
theorem law06_of_fn {l_0} {s : Store} {Q : List AV → Store → Prop}  : ok (law06_of l_0) (fun r => Q [.sl true 3 r.length (flat r)] s) → FN Go.Proofs.Try.prog 9 [.sl false 3 l_0.length (flat l_0)] s Q := by
  intro h
  refine FN.of (draw_ok mix) is_law06_of rfl (Nat.le_of_ble_eq_true rfl) ?_
  revert h
  rw [ir_law06_of, res_law06_of, law06_of]
  repeat' (first
    | with_reducible exact tt_to
    | with_reducible refine and_to ?_ ?_
    | with_reducible refine im_to ?_
    | ((with_reducible refine iter_to (fun ((out2, k3) : (List lz_Token) × Int) => ⟨[(0, .sl false 3 l_0.length (flat l_0)), (3, .sl true 3 out2.length (flat out2)), (4, .int .i64 k3)], [], s⟩) ?_ ?_); exact rfl; rintro J ⟨out2, k3⟩)
    | ((with_reducible refine join_to (fun (out1 : (List lz_Token)) => ⟨[(3, .sl true 3 out1.length (flat out1))], [], s⟩) (fun J => ?_) ?_); rotate_left; rintro out1)
    | simp -implicitDefEqProofs only [go_sem, start, startE, resVs, resV, resC, allV, retK, Nat.reduceBEq, Nat.reduceAdd, Nat.reduceMul, Nat.reduceLeDiff, Nat.reduceEqDiff, Nat.reduceBNe, Nat.ble_eq, UInt8.reduceToNat])
theorem law06_of_fe {l_0} {s : Store} {r : (List lz_Token)}  (h : law06_of l_0 = some r) : FE Go.Proofs.Try.prog 9 [.sl false 3 l_0.length (flat l_0)] s [.sl true 3 r.length (flat r)] s := law06_of_fn   ⟨r, h, rfl, rfl⟩

/-- catchword/catchwordlaw06.back -/
def law06_back (l_0 : (List lz_Token)) : Option ((List ref06_Token)) :=
  jn (
    iter (fun ((out2, k3) : (List ref06_Token) × Int) =>
      if decide (k3 < (l_0.length : Int)) then
        need (0 ≤ k3 ∧ k3 < l_0.length) <|
        need (0 ≤ k3 ∧ k3 < l_0.length) <|
        need (0 ≤ k3 ∧ k3 < l_0.length) <|
        need ((out2.length + [(ref06_Token.mk ((ix l_0 k3).Byte) ((ix l_0 k3).Length) ((ix l_0 k3).Far))].length) * 24 ≤ room) <|
        some (.inl (out2 ++ [(ref06_Token.mk ((ix l_0 k3).Byte) ((ix l_0 k3).Length) ((ix l_0 k3).Far))], w64 (k3 + 1)))
      else
        some (.inr out2)) (([] : List ref06_Token), 0)) fun (out1 : (List ref06_Token)) =>
  some out1
def ir_law06_back : IC :=
 (.seq (.reg none [i1 2 (.mov true (.c (.sl true 3 0 [])))] [0])
 (.seq (.reg none [i1 3 (.mov true (.c (.sl true 3 0 [])))] [0, 3])
 (.join [(3, false)] (.seq (.reg none [i1 4 (.mov false (.c (.int .i64 0)))] [0, 3, 4])
 (.block 0 (.loop [(0, true), (3, false), (4, false)] (.seq (.seq (.reg none [mv 5 4,
 mv 6 0,
 i1 7 (.len 0 (.t 6)),
 i1 8 (.bin .lss (.t 5) (.t 7))] [0, 3, 4, 8])
 (.cond (.t 8) .skip
 (.exit 0)))
 (.seq (.block 1 (.reg (some 18) [mt 11 3,
 mv 12 0,
 mv 13 4,
 i1 14 (.indexAddr [.int .u8 0, .int .i64 0, .int .i64 0] (.t 12) (.t 13)),
 i1 15 (.fieldAddr 0 (.t 14)),
 i1 16 (.load 1 false (.t 15)),
 mv 17 0,
 mv 18 4,
 i1 19 (.indexAddr [.int .u8 0, .int .i64 0, .int .i64 0] (.t 17) (.t 18)),
 i1 20 (.fieldAddr 1 (.t 19)),
 i1 21 (.load 1 false (.t 20)),
 mv 22 0,
 mv 23 4,
 i1 24 (.indexAddr [.int .u8 0, .int .i64 0, .int .i64 0] (.t 22) (.t 23)),
 i1 25 (.fieldAddr 2 (.t 24)),
 i1 26 (.load 1 false (.t 25)),
 i1 27 (.build [.int .u8 0, .int .i64 0, .int .i64 0] [(0, 1, (.t 16)), (1, 1, (.t 21)), (2, 1, (.t 26))]),
 i1 28 (.buildSl 3 1 [.int .u8 0, .int .i64 0, .int .i64 0] [(0, 3, (.t 27))]),
 i1 29 (.append 3 24 (.t 11) (.t 28)),
 mt 3 29] [0, 3, 4]))
 (.reg none [mv 9 4,
 i1 10 (.bin .add (.t 9) (.c (.int .i64 1))),
 mv 4 10] [0, 3, 4]))))))
 (.seq (.reg none [mt 30 3,
 mt 2 30] [2])
 .ret))))
def res_law06_back : List IRes := [⟨2, true, none⟩]
theorem is_law06_back : fnIs Go.Proofs.Try.prog 13 31 res_law06_back ir_law06_back = true := by kernel_rfl
theorem law06_back_fn {l_0} {s : Store} {Q : List AV → Store → Prop}  : ok (law06_back l_0) (fun r => Q [.sl true 3 r.length (flat r)] s) → FN Go.Proofs.Try.prog 13 [.sl false 3 l_0.length (flat l_0)] s Q := by
  intro h
  refine FN.of (draw_ok mix) is_law06_back rfl (Nat.le_of_ble_eq_true rfl) ?_
  revert h
  rw [ir_law06_back, res_law06_back, law06_back]
  repeat' (first
    | with_reducible exact tt_to
    | with_reducible refine and_to ?_ ?_
    | with_reducible refine im_to ?_
    | ((with_reducible refine iter_to (fun ((out2, k3) : (List ref06_Token) × Int) => ⟨[(0, .sl false 3 l_0.length (flat l_0)), (3, .sl true 3 out2.length (flat out2)), (4, .int .i64 k3)], [], s⟩) ?_ ?_); exact rfl; rintro J ⟨out2, k3⟩)
    | ((with_reducible refine join_to (fun (out1 : (List ref06_Token)) => ⟨[(3, .sl true 3 out1.length (flat out1))], [], s⟩) (fun J => ?_) ?_); rotate_left; rintro out1)
    | simp -implicitDefEqProofs only [go_sem, start, startE, resVs, resV, resC, allV, retK, Nat.reduceBEq, Nat.reduceAdd, Nat.reduceMul, Nat.reduceLeDiff, Nat.reduceEqDiff, Nat.reduceBNe, Nat.ble_eq, UInt8.reduceToNat])
theorem law06_back_fe {l_0} {s : Store} {r : (List ref06_Token)}  (h : law06_back l_0 = some r) : FE Go.Proofs.Try.prog 13 [.sl false 3 l_0.length (flat l_0)] s [.sl true 3 r.length (flat r)] s := law06_back_fn   ⟨r, h, rfl, rfl⟩

/-- catchword/catchwordref06.Expand -/
def ref06_Expand (l_0 : (List ref06_Token)) (most_1 : Int) : Option ((List UInt8) × Int) :=
  if (decide (most_1 < 0)) || (decide (most_1 > 16777216)) then
    some (([] : List UInt8), 2)
  else
    jnS (
      bndS (
        iter (fun ((out4, k5) : (List UInt8) × Int) =>
          if decide (k5 < (l_0.length : Int)) then
            jnS (
              need (0 ≤ k5 ∧ k5 < l_0.length) <|
              if (!((((ix l_0 k5).Length) == 0) && (((ix l_0 k5).Far) == 0))) && (!((((((((ix l_0 k5).Byte).toNat : Int) == 0) && (decide ((ix l_0 k5).Length ≥ 3))) && (decide ((ix l_0 k5).Length ≤ 258))) && (decide ((ix l_0 k5).Far ≥ 1))) && (decide ((ix l_0 k5).Far ≤ 32768)))) then
                some (.inr (([] : List UInt8), 2))
              else
                if decide ((ix l_0 k5).Far > (out4.length : Int)) then
                  some (.inr (([] : List UInt8), 14))
                else
                  if (((((ix l_0 k5).Length) == 0) && (((ix l_0 k5).Far) == 0)) && (decide ((out4.length : Int) ≥ most_1))) || (decide ((ix l_0 k5).Length > w64 (most_1 - (out4.length : Int)))) then
                    some (.inr (([] : List UInt8), 3))
                  else
                    jn (
                      if (((ix l_0 k5).Length) == 0) && (((ix l_0 k5).Far) == 0) then
                        need ((out4.length + [(ix l_0 k5).Byte].length) * 1 ≤ room) <|
                        some (out4 ++ [(ix l_0 k5).Byte])
                      else
                        some out4) fun (out17 : (List UInt8)) =>
                    bnd (
                      iter (fun ((out20, j21) : (List UInt8) × Int) =>
                        if decide (j21 < (ix l_0 k5).Length) then
                          need (0 ≤ w64 ((out20.length : Int) - ((ix l_0 k5).Far)) ∧ w64 ((out20.length : Int) - ((ix l_0 k5).Far)) < out20.length) <|
                          need ((out20.length + [ix out20 (w64 ((out20.length : Int) - ((ix l_0 k5).Far)))].length) * 1 ≤ room) <|
                          some (.inl (out20 ++ [ix out20 (w64 ((out20.length : Int) - ((ix l_0 k5).Far)))], w64 (j21 + 1)))
                        else
                          some (.inr out20)) (out17, 0)) fun (out24 : (List UInt8)) =>
                    some (.inl out24)) (fun (out11 : (List UInt8)) =>
              some (.inl (out11, w64 (k5 + 1))))
            (fun ((t13, t14) : (List UInt8) × Int) => some (.inr (.inr (t13, t14))))
          else
            some (.inr (.inl out4))) (([] : List UInt8), 0)) (fun (out6 : (List UInt8)) =>
        some (.inl out6))
      (fun ((t7, t8) : (List UInt8) × Int) => some (.inr (t7, t8)))) (fun (out1 : (List UInt8)) =>
      some (out1, 0))
    (fun ((t2, t3) : (List UInt8) × Int) => some (t2, t3))
def ir_ref06_Expand : IC :=
 (.seq (.reg none [i1 4 (.mov true (.c (.sl true 1 0 []))),
 i1 5 (.mov false (.c (.int .i64 0)))] [0, 1])
 (.seq (.seq (.reg none [mv 12 1,
 i1 13 (.bin .lss (.t 12) (.c (.int .i64 0))),
 mv 14 13,
 mvg 15 1 14 false,
 i1g 16 14 false (.bin .gtr (.t 15) (.c (.int .i64 16777216))),
 i1 17 (.pick (.t 14) (.c (.bool true)) (.t 16))] [0, 1, 17])
 (.cond (.t 17) (.seq (.reg none [i1 4 (.mov true (.c (.sl true 1 0 []))),
 i1 5 (.mov false (.c (.int .i64 2)))] [4, 5])
 .ret)
 .skip))
 (.seq (.reg none [i1 6 (.mov true (.c (.sl true 1 0 [])))] [0, 1, 6])
 (.join [(6, false)] (.seq (.reg none [i1 7 (.mov false (.c (.int .i64 0)))] [0, 1, 6, 7])
 (.block 0 (.loop [(0, true), (1, false), (6, false), (7, false)] (.seq (.seq (.reg none [mv 18 7,
 mv 19 0,
 i1 20 (.len 0 (.t 19)),
 i1 21 (.bin .lss (.t 18) (.t 20))] [0, 1, 6, 7, 21])
 (.cond (.t 21) .skip
 (.exit 0)))
 (.join [(0, true), (1, false), (6, false), (7, false)] (.block 1 (.seq (.reg none [mv 24 0,
 mv 25 7,
 i1 26 (.indexAddr [.int .u8 0, .int .i64 0, .int .i64 0] (.t 24) (.t 25)),
 i1 27 (.load 3 true (.t 26)),
 i1 8 (.allocL [.int .u8 0, .int .i64 0, .int .i64 0]),
 i0 (.store 3 (.t 8) (.t 27))] [0, 1, 6, 7, 8])
 (.seq (.reg none [i1 28 (.fieldAddr 1 (.t 8)),
 i1 29 (.load 1 false (.t 28)),
 i1 30 (.bin .eql (.t 29) (.c (.int .i64 0))),
 mv 31 30,
 i1g 32 31 true (.fieldAddr 2 (.t 8)),
 i1g 33 31 true (.load 1 false (.t 32)),
 i1g 34 31 true (.bin .eql (.t 33) (.c (.int .i64 0))),
 i1 35 (.pick (.t 31) (.t 34) (.c (.bool false))),
 mv 9 35] [0, 1, 6, 7, 8, 9])
 (.seq (.reg none [i1 36 (.fieldAddr 0 (.t 8)),
 i1 37 (.load 1 false (.t 36)),
 i1 38 (.bin .eql (.t 37) (.c (.int .u8 0))),
 mv 39 38,
 i1g 40 39 true (.fieldAddr 1 (.t 8)),
 i1g 41 39 true (.load 1 false (.t 40)),
 i1g 42 39 true (.bin .geq (.t 41) (.c (.int .i64 3))),
 i1 43 (.pick (.t 39) (.t 42) (.c (.bool false))),
 mv 44 43,
 i1g 45 44 true (.fieldAddr 1 (.t 8)),
 i1g 46 44 true (.load 1 false (.t 45)),
 i1g 47 44 true (.bin .leq (.t 46) (.c (.int .i64 258))),
 i1 48 (.pick (.t 44) (.t 47) (.c (.bool false))),
 mv 49 48,
 i1g 50 49 true (.fieldAddr 2 (.t 8)),
 i1g 51 49 true (.load 1 false (.t 50)),
 i1g 52 49 true (.bin .geq (.t 51) (.c (.int .i64 1))),
 i1 53 (.pick (.t 49) (.t 52) (.c (.bool false))),
 mv 54 53,
 i1g 55 54 true (.fieldAddr 2 (.t 8)),
 i1g 56 54 true (.load 1 false (.t 55)),
 i1g 57 54 true (.bin .leq (.t 56) (.c (.int .i64 32768))),
 i1 58 (.pick (.t 54) (.t 57) (.c (.bool false))),
 mv 10 58] [0, 1, 6, 7, 8, 9, 10])
 (.seq (.seq (.reg none [mv 59 9,
 i1 60 (.un .not (.t 59)),
 mv 61 60,
 mvg 62 10 61 true,
 i1g 63 61 true (.un .not (.t 62)),
 i1 64 (.pick (.t 61) (.t 63) (.c (.bool false)))] [0, 1, 6, 7, 8, 9, 64])
 (.cond (.t 64) (.seq (.reg none [i1 4 (.mov true (.c (.sl true 1 0 []))),
 i1 5 (.mov false (.c (.int .i64 2)))] [4, 5])
 .ret)
 .skip))
 (.seq (.seq (.reg none [i1 65 (.fieldAddr 2 (.t 8)),
 i1 66 (.load 1 false (.t 65)),
 mv 67 6,
 i1 68 (.len 0 (.t 67)),
 i1 69 (.bin .gtr (.t 66) (.t 68))] [0, 1, 6, 7, 8, 9, 69])
 (.cond (.t 69) (.seq (.reg none [i1 4 (.mov true (.c (.sl true 1 0 []))),
 i1 5 (.mov false (.c (.int .i64 14)))] [4, 5])
 .ret)
 .skip))
 (.seq (.seq (.reg none [mv 70 9,
 mv 71 70,
 mvg 72 6 71 true,
 i1g 73 71 true (.len 0 (.t 72)),
 mvg 74 1 71 true,
 i1g 75 71 true (.bin .geq (.t 73) (.t 74)),
 i1 76 (.pick (.t 71) (.t 75) (.c (.bool false))),
 mv 77 76,
 i1g 78 77 false (.fieldAddr 1 (.t 8)),
 i1g 79 77 false (.load 1 false (.t 78)),
 mvg 80 1 77 false,
 mvg 81 6 77 false,
 i1g 82 77 false (.len 0 (.t 81)),
 i1g 83 77 false (.bin .sub (.t 80) (.t 82)),
 i1g 84 77 false (.bin .gtr (.t 79) (.t 83)),
 i1 85 (.pick (.t 77) (.c (.bool true)) (.t 84))] [0, 1, 6, 7, 8, 9, 85])
 (.cond (.t 85) (.seq (.reg none [i1 4 (.mov true (.c (.sl true 1 0 []))),
 i1 5 (.mov false (.c (.int .i64 3)))] [4, 5])
 .ret)
 .skip))
 (.join [(0, true), (1, false), (6, false), (7, false), (8, false)] (.seq (.reg none [mv 86 9] [0, 1, 6, 7, 8, 86])
 (.cond (.t 86) (.reg none [mt 87 6,
 i1 88 (.fieldAddr 0 (.t 8)),
 i1 89 (.load 1 false (.t 88)),
 i1 90 (.buildSl 1 1 [.int .u8 0] [(0, 1, (.t 89))]),
 i1 91 (.append 1 1 (.t 87) (.t 90)),
 mt 6 91] [0, 1, 6, 7, 8])
 .skip))
 (.seq (.reg none [i1 11 (.mov false (.c (.int .i64 0)))] [0, 1, 6, 7, 8, 11])
 (.block 2 (.loop [(0, true), (1, false), (6, false), (7, false), (8, false), (11, false)] (.seq (.seq (.reg none [mv 92 11,
 i1 93 (.fieldAddr 1 (.t 8)),
 i1 94 (.load 1 false (.t 93)),
 i1 95 (.bin .lss (.t 92) (.t 94))] [0, 1, 6, 7, 8, 11, 95])
 (.cond (.t 95) .skip
 (.exit 2)))
 (.seq (.block 3 (.reg none [mt 98 6,
 mv 99 6,
 mt 100 6,
 i1 101 (.len 0 (.t 100)),
 i1 102 (.fieldAddr 2 (.t 8)),
 i1 103 (.load 1 false (.t 102)),
 i1 104 (.bin .sub (.t 101) (.t 103)),
 i1 105 (.indexAddr [.int .u8 0] (.t 99) (.t 104)),
 i1 106 (.load 1 false (.t 105)),
 i1 107 (.buildSl 1 1 [.int .u8 0] [(0, 1, (.t 106))]),
 i1 108 (.append 1 1 (.t 98) (.t 107)),
 mt 6 108] [0, 1, 6, 7, 8, 11]))
 (.reg none [mv 96 11,
 i1 97 (.bin .add (.t 96) (.c (.int .i64 1))),
 mv 11 97] [0, 1, 6, 7, 8, 11]))))))))))))))
 (.reg none [mv 22 7,
 i1 23 (.bin .add (.t 22) (.c (.int .i64 1))),
 mv 7 23] [0, 1, 6, 7]))))))
 (.seq (.reg none [mt 109 6,
 mt 4 109,
 i1 5 (.mov false (.c (.int .i64 0)))] [4, 5])
 .ret)))))
def res_ref06_Expand : List IRes := [⟨4, true, none⟩, ⟨5, true, none⟩]
theorem is_ref06_Expand : fnIs Go.Proofs.Try.prog 10 110 res_ref06_Expand ir_ref06_Expand = true := by kernel_rfl
theorem ref06_Expand_fn {l_0 most_1} {s : Store} {Q : List AV → Store → Prop}  : ok (ref06_Expand l_0 most_1) (fun r => Q [.sl true 1 r.1.length (flat r.1), .int .i64 r.2] s) → FN Go.Proofs.Try.prog 10 [.sl false 3 l_0.length (flat l_0), .int .i64 most_1] s Q := by
  intro h
  refine FN.of (draw_ok mix) is_ref06_Expand rfl (Nat.le_of_ble_eq_true rfl) ?_
  revert h
  rw [ir_ref06_Expand, res_ref06_Expand, ref06_Expand]
  repeat' (first
    | with_reducible exact tt_to
    | with_reducible refine and_to ?_ ?_
    | with_reducible refine im_to ?_
    | ((with_reducible refine join_to (fun (out17 : (List UInt8)) => ⟨[(0, .sl false 3 l_0.length (flat l_0)), (1, .int .i64 most_1), (6, .sl true 1 out17.length (flat out17)), (7, .int .i64 k5), (8, .loc [.int .u8 ((ix l_0 k5).Byte).toNat, .int .i64 ((ix l_0 k5).Length), .int .i64 ((ix l_0 k5).Far)])], [], s⟩) (fun J => ?_) ?_); rotate_left; rintro out17)
    | ((with_reducible refine iter_to (fun ((out20, j21) : (List UInt8) × Int) => ⟨[(0, .sl false 3 l_0.length (flat l_0)), (1, .int .i64 most_1), (6, .sl true 1 out20.length (flat out20)), (7, .int .i64 k5), (8, .loc [.int .u8 ((ix l_0 k5).Byte).toNat, .int .i64 ((ix l_0 k5).Length), .int .i64 ((ix l_0 k5).Far)]), (11, .int .i64 j21)], [], s⟩) ?_ ?_); exact rfl; rintro J ⟨out20, j21⟩)
    | ((with_reducible refine join_toS (fun (out11 : (List UInt8)) => ⟨[(0, .sl false 3 l_0.length (flat l_0)), (1, .int .i64 most_1), (6, .sl true 1 out11.length (flat out11)), (7, .int .i64 k5)], [], s⟩) (fun J => ?_) ?_); rotate_left; rintro out11)
    | ((with_reducible refine iter_to (fun ((out4, k5) : (List UInt8) × Int) => ⟨[(0, .sl false 3 l_0.length (flat l_0)), (1, .int .i64 most_1), (6, .sl true 1 out4.length (flat out4)), (7, .int .i64 k5)], [], s⟩) ?_ ?_); exact rfl; rintro J ⟨out4, k5⟩)
    | ((with_reducible refine join_toS (fun (out1 : (List UInt8)) => ⟨[(6, .sl true 1 out1.length (flat out1))], [], s⟩) (fun J => ?_) ?_); rotate_left; rintro out1)
    | simp -implicitDefEqProofs only [go_sem, start, startE, resVs, resV, resC, allV, retK, Nat.reduceBEq, Nat.reduceAdd, Nat.reduceMul, Nat.reduceLeDiff, Nat.reduceEqDiff, Nat.reduceBNe, Nat.ble_eq, UInt8.reduceToNat])
theorem ref06_Expand_fe {l_0 most_1} {s : Store} {r : (List UInt8) × Int}  (h : ref06_Expand l_0 most_1 = some r) : FE Go.Proofs.Try.prog 10 [.sl false 3 l_0.length (flat l_0), .int .i64 most_1] s [.sl true 1 r.1.length (flat r.1), .int .i64 r.2] s := ref06_Expand_fn   ⟨r, h, rfl, rfl⟩

/-- catchword/catchwordref06.Match -/
def ref06_Match (b_0 : (List UInt8)) (at_1 : Int) (far_2 : Int) (most_3 : Int) : Option (Int) :=
  if (((decide (at_1 < 0)) || (decide (at_1 ≥ (b_0.length : Int)))) || (decide (far_2 < 1))) || (decide (far_2 > at_1)) then
    some 0
  else
    jnS (
      bndS (
        iter (fun ((n3, k4) : Int × Int) =>
          if (decide (k4 < (b_0.length : Int))) && (decide (n3 < most_3)) then
            need (0 ≤ k4 ∧ k4 < b_0.length) <|
            need (0 ≤ w64 (k4 - far_2) ∧ w64 (k4 - far_2) < b_0.length) <|
            if ((ix b_0 k4).toNat : Int) != ((ix b_0 (w64 (k4 - far_2))).toNat : Int) then
              some (.inr (.inr n3))
            else
              some (.inl (w64 (n3 + 1), w64 (k4 + 1)))
          else
            some (.inr (.inl n3))) (0, at_1)) (fun (n5 : Int) =>
        some (.inl n5))
      (fun (t6 : Int) => some (.inr t6))) (fun (n1 : Int) =>
      some n1)
    (fun (t2 : Int) => some t2)
def ir_ref06_Match : IC :=
 (.seq (.reg none [i1 8 (.mov false (.c (.int .i64 0)))] [0, 1, 2, 3])
 (.seq (.seq (.reg none [mv 11 1,
 i1 12 (.bin .lss (.t 11) (.c (.int .i64 0))),
 mv 13 12,
 mvg 14 1 13 false,
 mvg 15 0 13 false,
 i1g 16 13 false (.len 0 (.t 15)),
 i1g 17 13 false (.bin .geq (.t 14) (.t 16)),
 i1 18 (.pick (.t 13) (.c (.bool true)) (.t 17)),
 mv 19 18,
 mvg 20 2 19 false,
 i1g 21 19 false (.bin .lss (.t 20) (.c (.int .i64 1))),
 i1 22 (.pick (.t 19) (.c (.bool true)) (.t 21)),
 mv 23 22,
 mvg 24 2 23 false,
 mvg 25 1 23 false,
 i1g 26 23 false (.bin .gtr (.t 24) (.t 25)),
 i1 27 (.pick (.t 23) (.c (.bool true)) (.t 26))] [0, 1, 2, 3, 27])
 (.cond (.t 27) (.seq (.reg none [i1 8 (.mov false (.c (.int .i64 0)))] [8])
 .ret)
 .skip))
 (.seq (.reg none [i1 9 (.mov false (.c (.int .i64 0)))] [0, 1, 2, 3, 9])
 (.join [(9, false)] (.seq (.reg none [mv 28 1,
 mv 10 28] [0, 2, 3, 9, 10])
 (.block 0 (.loop [(0, true), (2, false), (3, false), (9, false), (10, false)] (.seq (.seq (.reg none [mv 29 10,
 mv 30 0,
 i1 31 (.len 0 (.t 30)),
 i1 32 (.bin .lss (.t 29) (.t 31)),
 mv 33 32,
 mvg 34 9 33 true,
 mvg 35 3 33 true,
 i1g 36 33 true (.bin .lss (.t 34) (.t 35)),
 i1 37 (.pick (.t 33) (.t 36) (.c (.bool false)))] [0, 2, 3, 9, 10, 37])
 (.cond (.t 37) .skip
 (.exit 0)))
 (.seq (.block 1 (.seq (.seq (.reg (some 11) [mv 40 0,
 mv 41 10,
 i1 42 (.indexAddr [.int .u8 0] (.t 40) (.t 41)),
 i1 43 (.load 1 false (.t 42)),
 mv 44 0,
 mv 45 10,
 mv 46 2,
 i1 47 (.bin .sub (.t 45) (.t 46)),
 i1 48 (.indexAddr [.int .u8 0] (.t 44) (.t 47)),
 i1 49 (.load 1 false (.t 48)),
 i1 50 (.bin .neq (.t 43) (.t 49))] [0, 2, 3, 9, 10, 50])
 (.cond (.t 50) (.seq (.reg none [mv 51 9,
 mv 8 51] [8])
 .ret)
 .skip))
 (.reg none [mv 52 9,
 i1 53 (.bin .add (.t 52) (.c (.int .i64 1))),
 mv 9 53] [0, 2, 3, 9, 10])))
 (.reg none [mv 38 10,
 i1 39 (.bin .add (.t 38) (.c (.int .i64 1))),
 mv 10 39] [0, 2, 3, 9, 10]))))))
 (.seq (.reg none [mv 54 9,
 mv 8 54] [8])
 .ret)))))
def res_ref06_Match : List IRes := [⟨8, true, none⟩]
theorem is_ref06_Match : fnIs Go.Proofs.Try.prog 15 55 res_ref06_Match ir_ref06_Match = true := by kernel_rfl
theorem ref06_Match_fn {b_0 at_1 far_2 most_3} {s : Store} {Q : List AV → Store → Prop}  : ok (ref06_Match b_0 at_1 far_2 most_3) (fun r => Q [.int .i64 r] s) → FN Go.Proofs.Try.prog 15 [.sl false 1 b_0.length (flat b_0), .int .i64 at_1, .int .i64 far_2, .int .i64 most_3] s Q := by
  intro h
  refine FN.of (draw_ok mix) is_ref06_Match rfl (Nat.le_of_ble_eq_true rfl) ?_
  revert h
  rw [ir_ref06_Match, res_ref06_Match, ref06_Match]
  repeat' (first
    | with_reducible exact tt_to
    | with_reducible refine and_to ?_ ?_
    | with_reducible refine im_to ?_
    | ((with_reducible refine iter_to (fun ((n3, k4) : Int × Int) => ⟨[(0, .sl false 1 b_0.length (flat b_0)), (2, .int .i64 far_2), (3, .int .i64 most_3), (9, .int .i64 n3), (10, .int .i64 k4)], [], s⟩) ?_ ?_); exact rfl; rintro J ⟨n3, k4⟩)
    | ((with_reducible refine join_toS (fun (n1 : Int) => ⟨[(9, .int .i64 n1)], [], s⟩) (fun J => ?_) ?_); rotate_left; rintro n1)
    | simp -implicitDefEqProofs only [go_sem, start, startE, resVs, resV, resC, allV, retK, Nat.reduceBEq, Nat.reduceAdd, Nat.reduceMul, Nat.reduceLeDiff, Nat.reduceEqDiff, Nat.reduceBNe, Nat.ble_eq, UInt8.reduceToNat])
theorem ref06_Match_fe {b_0 at_1 far_2 most_3} {s : Store} {r : Int}  (h : ref06_Match b_0 at_1 far_2 most_3 = some r) : FE Go.Proofs.Try.prog 15 [.sl false 1 b_0.length (flat b_0), .int .i64 at_1, .int .i64 far_2, .int .i64 most_3] s [.int .i64 r] s := ref06_Match_fn   ⟨r, h, rfl, rfl⟩

/-- catchword/catchwordlaw06.works -/
def law06_works  : Option (Bool) :=
  bnd (lz_Expand [(lz_Token.mk 97 0 0), (lz_Token.mk 0 4 1)] 9) fun r1 =>
  bnd (whenB (((Str.mk r1.1).b == (Str.mk [97, 97, 97, 97, 97]).b) && (r1.2 == 0)) 0 (lz_Check [(lz_Token.mk 0 4 1)])) fun r2 =>
  bnd (whenB ((((Str.mk r1.1).b == (Str.mk [97, 97, 97, 97, 97]).b) && (r1.2 == 0)) && (r2 == 14)) [] (lz_Tokens [97, 98, 99])) fun r3 =>
  some (((((Str.mk r1.1).b == (Str.mk [97, 97, 97, 97, 97]).b) && (r1.2 == 0)) && (r2 == 14)) && ((r3.length : Int) == 3))
def ir_law06_works : IC :=
 (.seq (.reg none [i1 0 (.mov false (.c (.bool false)))] [])
 (.seq (.reg none [i1 4 (.build [.int .u8 0, .int .i64 0, .int .i64 0] [(0, 1, (.c (.int .u8 97)))]),
 i1 5 (.build [.int .u8 0, .int .i64 0, .int .i64 0] [(1, 1, (.c (.int .i64 4))), (2, 1, (.c (.int .i64 1)))]),
 i1 6 (.buildSl 3 2 [.int .u8 0, .int .i64 0, .int .i64 0, .int .u8 0, .int .i64 0, .int .i64 0] [(0, 3, (.t 4)), (3, 3, (.t 5))]),
 i1 7 (.call 8 [(.t 6), (.c (.int .i64 9))]),
 i1 3 (.movT (.t 7)),
 i1 8 (.extract (.t 3) 0),
 i1 9 (.extract (.t 3) 1),
 mt 1 8,
 mv 2 9] [1, 2])
 (.seq (.reg (some 17) [mv 10 1,
 i1 11 (.cvtStr (.t 10)),
 i1 12 (.bin .eql (.t 11) (.c (.str [97, 97, 97, 97, 97]))),
 mv 13 12,
 mvg 14 2 13 true,
 i1g 15 13 true (.bin .eql (.t 14) (.c (.int .i64 0))),
 i1 16 (.pick (.t 13) (.t 15) (.c (.bool false))),
 mv 17 16,
 i1g 18 17 true (.build [.int .u8 0, .int .i64 0, .int .i64 0] [(1, 1, (.c (.int .i64 4))), (2, 1, (.c (.int .i64 1)))]),
 i1g 19 17 true (.buildSl 3 1 [.int .u8 0, .int .i64 0, .int .i64 0] [(0, 3, (.t 18))]),
 i1g 20 17 true (.call 11 [(.t 19)]),
 i1g 21 17 true (.bin .eql (.t 20) (.c (.int .i64 14))),
 i1 22 (.pick (.t 17) (.t 21) (.c (.bool false))),
 mv 23 22,
 i1g 24 23 true (.buildSl 1 3 [.int .u8 0, .int .u8 0, .int .u8 0] [(0, 1, (.c (.int .u8 97))), (1, 1, (.c (.int .u8 98))), (2, 1, (.c (.int .u8 99)))]),
 i1g 25 23 true (.cvtRow (.t 24)),
 i1g 26 23 true (.call 12 [(.t 25)]),
 i1g 27 23 true (.len 0 (.t 26)),
 i1g 28 23 true (.bin .eql (.t 27) (.c (.int .i64 3))),
 i1 29 (.pick (.t 23) (.t 28) (.c (.bool false))),
 mv 0 29] [0])
 .ret)))
def res_law06_works : List IRes := [⟨0, true, none⟩]
theorem is_law06_works : fnIs Go.Proofs.Try.prog 7 30 res_law06_works ir_law06_works = true := by kernel_rfl
theorem law06_works_fn  {s : Store} {Q : List AV → Store → Prop}  : ok (law06_works ) (fun r => Q [.bool r] s) → FN Go.Proofs.Try.prog 7 [] s Q := by
  intro h
  refine FN.of (draw_ok mix) is_law06_works rfl (Nat.le_of_ble_eq_true rfl) ?_
  revert h
  rw [ir_law06_works, res_law06_works, law06_works]
  repeat' (first
    | with_reducible exact tt_to
    | with_reducible refine and_to ?_ ?_
    | with_reducible refine im_to ?_
    | with_reducible refine call_to (fun _ (h : lz_Expand [(lz_Token.mk 97 0 0), (lz_Token.mk 0 4 1)] 9 = some _) => lz_Expand_fe h) (fun r1 => ?_)
    | with_reducible refine call_to_q (fun _ (h : lz_Expand [(lz_Token.mk 97 0 0), (lz_Token.mk 0 4 1)] 9 = some _) => lz_Expand_fe h) (fun _ => rfl) (fun r1 => ?_)
    | with_reducible refine call_to (fun _ (h : lz_Expand [(lz_Token.mk 97 0 0), (lz_Token.mk 0 4 1)] 9 = some _) => (by have hx := lz_Expand_fe (s := s) h; simp -implicitDefEqProofs only [go_sem, start, startE, resVs, resV, resC, allV, retK, Nat.reduceBEq, Nat.reduceAdd, Nat.reduceMul, Nat.reduceLeDiff, Nat.reduceEqDiff, Nat.reduceBNe, Nat.ble_eq, UInt8.reduceToNat] at hx; exact hx)) (fun r1 => ?_)
    | with_reducible refine call_to_q (fun _ (h : lz_Expand [(lz_Token.mk 97 0 0), (lz_Token.mk 0 4 1)] 9 = some _) => (by have hx := lz_Expand_fe (s := s) h; simp -implicitDefEqProofs only [go_sem, start, startE, resVs, resV, resC, allV, retK, Nat.reduceBEq, Nat.reduceAdd, Nat.reduceMul, Nat.reduceLeDiff, Nat.reduceEqDiff, Nat.reduceBNe, Nat.ble_eq, UInt8.reduceToNat] at hx; exact hx)) (fun _ => rfl) (fun r1 => ?_)
    | with_reducible refine call_to_g rfl (fun _ (h : lz_Check [(lz_Token.mk 0 4 1)] = some _) => lz_Check_fe h) (fun _ => rfl) (fun r2 => ?_)
    | with_reducible refine call_to_g rfl (fun _ (h : lz_Check [(lz_Token.mk 0 4 1)] = some _) => (by have hx := lz_Check_fe (s := s) h; simp -implicitDefEqProofs only [go_sem, start, startE, resVs, resV, resC, allV, retK, Nat.reduceBEq, Nat.reduceAdd, Nat.reduceMul, Nat.reduceLeDiff, Nat.reduceEqDiff, Nat.reduceBNe, Nat.ble_eq, UInt8.reduceToNat] at hx; exact hx)) (fun _ => rfl) (fun r2 => ?_)
    | with_reducible refine call_to_g rfl (fun _ (h : lz_Tokens [97, 98, 99] = some _) => lz_Tokens_fe h) (fun _ => rfl) (fun r3 => ?_)
    | with_reducible refine call_to_g rfl (fun _ (h : lz_Tokens [97, 98, 99] = some _) => (by have hx := lz_Tokens_fe (s := s) h; simp -implicitDefEqProofs only [go_sem, start, startE, resVs, resV, resC, allV, retK, Nat.reduceBEq, Nat.reduceAdd, Nat.reduceMul, Nat.reduceLeDiff, Nat.reduceEqDiff, Nat.reduceBNe, Nat.ble_eq, UInt8.reduceToNat] at hx; exact hx)) (fun _ => rfl) (fun r3 => ?_)
    | simp -implicitDefEqProofs only [go_sem, start, startE, resVs, resV, resC, allV, retK, Nat.reduceBEq, Nat.reduceAdd, Nat.reduceMul, Nat.reduceLeDiff, Nat.reduceEqDiff, Nat.reduceBNe, Nat.ble_eq, UInt8.reduceToNat])
theorem law06_works_fe  {s : Store} {r : Bool}  (h : law06_works  = some r) : FE Go.Proofs.Try.prog 7 [] s [.bool r] s := law06_works_fn   ⟨r, h, rfl, rfl⟩

/-- catchword/catchwordlaw06.LzExpands -/
def law06_LzExpands (l_0 : (List ref06_Token)) (most_1 : Int) : Option (Bool) :=
  if decide ((l_0.length : Int) > 100) then
    bnd (law06_works) fun r1 =>
    some r1
  else
    bnd (law06_of l_0) fun r2 =>
    bnd (lz_Expand r2 most_1) fun r3 =>
    bnd (ref06_Expand l_0 most_1) fun r4 =>
    bnd (ref06_Expand l_0 16777216) fun r5 =>
    bnd (whenB (((Str.mk r3.1).b == (Str.mk r4.1).b) && (r3.2 == r4.2)) [] (law06_of l_0)) fun r6 =>
    bnd (whenB (((Str.mk r3.1).b == (Str.mk r4.1).b) && (r3.2 == r4.2)) 0 (lz_Check r6)) fun r7 =>
    bnd (whenB ((((Str.mk r3.1).b == (Str.mk r4.1).b) && (r3.2 == r4.2)) && (r7 == r5.2)) false (law06_works)) fun r8 =>
    some (((((Str.mk r3.1).b == (Str.mk r4.1).b) && (r3.2 == r4.2)) && (r7 == r5.2)) && r8)
def ir_law06_LzExpands : IC :=
 (.seq (.reg none [i1 4 (.mov false (.c (.bool false)))] [0, 1])
 (.seq (.seq (.reg none [mv 11 0,
 i1 12 (.len 0 (.t 11)),
 i1 13 (.bin .gtr (.t 12) (.c (.int .i64 100)))] [0, 1, 13])
 (.cond (.t 13) (.seq (.reg none [i1 14 (.call 7 []),
 mv 4 14] [4])
 .ret)
 .skip))
 (.seq (.reg none [mv 16 0,
 i1 17 (.call 9 [(.t 16)]),
 mv 18 1,
 i1 19 (.call 8 [(.t 17), (.t 18)]),
 i1 15 (.movT (.t 19)),
 i1 20 (.extract (.t 15) 0),
 i1 21 (.extract (.t 15) 1),
 mt 5 20,
 mv 6 21] [0, 1, 5, 6])
 (.seq (.reg none [mv 23 0,
 mv 24 1,
 i1 25 (.call 10 [(.t 23), (.t 24)]),
 i1 22 (.movT (.t 25)),
 i1 26 (.extract (.t 22) 0),
 i1 27 (.extract (.t 22) 1),
 mt 7 26,
 mv 8 27] [0, 5, 6, 7, 8])
 (.seq (.reg none [mv 29 0,
 i1 30 (.call 10 [(.t 29), (.c (.int .i64 16777216))]),
 i1 28 (.movT (.t 30)),
 i1 31 (.extract (.t 28) 0),
 i1 32 (.extract (.t 28) 1),
 mt 9 31,
 mv 10 32] [0, 5, 6, 7, 8, 10])
 (.seq (.reg (some 19) [mv 33 5,
 i1 34 (.cvtStr (.t 33)),
 mv 35 7,
 i1 36 (.cvtStr (.t 35)),
 i1 37 (.bin .eql (.t 34) (.t 36)),
 mv 38 37,
 mvg 39 6 38 true,
 mvg 40 8 38 true,
 i1g 41 38 true (.bin .eql (.t 39) (.t 40)),
 i1 42 (.pick (.t 38) (.t 41) (.c (.bool false))),
 mv 43 42,
 mvg 44 0 43 true,
 i1g 45 43 true (.call 9 [(.t 44)]),
 i1g 46 43 true (.call 11 [(.t 45)]),
 mvg 47 10 43 true,
 i1g 48 43 true (.bin .eql (.t 46) (.t 47)),
 i1 49 (.pick (.t 43) (.t 48) (.c (.bool false))),
 mv 50 49,
 i1g 51 50 true (.call 7 []),
 i1 52 (.pick (.t 50) (.t 51) (.c (.bool false))),
 mv 4 52] [4])
 .ret))))))
def res_law06_LzExpands : List IRes := [⟨4, true, none⟩]
theorem is_law06_LzExpands : fnIs Go.Proofs.Try.prog 3 53 res_law06_LzExpands ir_law06_LzExpands = true := by kernel_rfl
theorem law06_LzExpands_fn {l_0 most_1} {s : Store} {Q : List AV → Store → Prop}  : ok (law06_LzExpands l_0 most_1) (fun r => Q [.bool r] s) → FN Go.Proofs.Try.prog 3 [.sl false 3 l_0.length (flat l_0), .int .i64 most_1] s Q := by
  intro h
  refine FN.of (draw_ok mix) is_law06_LzExpands rfl (Nat.le_of_ble_eq_true rfl) ?_
  revert h
  rw [ir_law06_LzExpands, res_law06_LzExpands, law06_LzExpands]
  repeat' (first
    | with_reducible exact tt_to
    | with_reducible refine and_to ?_ ?_
    | with_reducible refine im_to ?_
    | with_reducible refine call_to (fun _ (h : law06_works = some _) => law06_works_fe h) (fun r1 => ?_)
    | with_reducible refine call_to_q (fun _ (h : law06_works = some _) => law06_works_fe h) (fun _ => rfl) (fun r1 => ?_)
    | with_reducible refine call_to (fun _ (h : law06_works = some _) => (by have hx := law06_works_fe (s := s) h; simp -implicitDefEqProofs only [go_sem, start, startE, resVs, resV, resC, allV, retK, Nat.reduceBEq, Nat.reduceAdd, Nat.reduceMul, Nat.reduceLeDiff, Nat.reduceEqDiff, Nat.reduceBNe, Nat.ble_eq, UInt8.reduceToNat] at hx; exact hx)) (fun r1 => ?_)
    | with_reducible refine call_to_q (fun _ (h : law06_works = some _) => (by have hx := law06_works_fe (s := s) h; simp -implicitDefEqProofs only [go_sem, start, startE, resVs, resV, resC, allV, retK, Nat.reduceBEq, Nat.reduceAdd, Nat.reduceMul, Nat.reduceLeDiff, Nat.reduceEqDiff, Nat.reduceBNe, Nat.ble_eq, UInt8.reduceToNat] at hx; exact hx)) (fun _ => rfl) (fun r1 => ?_)
    | with_reducible refine call_to (fun _ (h : law06_of l_0 = some _) => law06_of_fe h) (fun r2 => ?_)
    | with_reducible refine call_to_q (fun _ (h : law06_of l_0 = some _) => law06_of_fe h) (fun _ => rfl) (fun r2 => ?_)
    | with_reducible refine call_to (fun _ (h : law06_of l_0 = some _) => (by have hx := law06_of_fe (s := s) h; simp -implicitDefEqProofs only [go_sem, start, startE, resVs, resV, resC, allV, retK, Nat.reduceBEq, Nat.reduceAdd, Nat.reduceMul, Nat.reduceLeDiff, Nat.reduceEqDiff, Nat.reduceBNe, Nat.ble_eq, UInt8.reduceToNat] at hx; exact hx)) (fun r2 => ?_)
    | with_reducible refine call_to_q (fun _ (h : law06_of l_0 = some _) => (by have hx := law06_of_fe (s := s) h; simp -implicitDefEqProofs only [go_sem, start, startE, resVs, resV, resC, allV, retK, Nat.reduceBEq, Nat.reduceAdd, Nat.reduceMul, Nat.reduceLeDiff, Nat.reduceEqDiff, Nat.reduceBNe, Nat.ble_eq, UInt8.reduceToNat] at hx; exact hx)) (fun _ => rfl) (fun r2 => ?_)
    | with_reducible refine call_to (fun _ (h : lz_Expand r2 most_1 = some _) => lz_Expand_fe h) (fun r3 => ?_)
    | with_reducible refine call_to_q (fun _ (h : lz_Expand r2 most_1 = some _) => lz_Expand_fe h) (fun _ => rfl) (fun r3 => ?_)
    | with_reducible refine call_to (fun _ (h : lz_Expand r2 most_1 = some _) => (by have hx := lz_Expand_fe (s := s) h; simp -implicitDefEqProofs only [go_sem, start, startE, resVs, resV, resC, allV, retK, Nat.reduceBEq, Nat.reduceAdd, Nat.reduceMul, Nat.reduceLeDiff, Nat.reduceEqDiff, Nat.reduceBNe, Nat.ble_eq, UInt8.reduceToNat] at hx; exact hx)) (fun r3 => ?_)
    | with_reducible refine call_to_q (fun _ (h : lz_Expand r2 most_1 = some _) => (by have hx := lz_Expand_fe (s := s) h; simp -implicitDefEqProofs only [go_sem, start, startE, resVs, resV, resC, allV, retK, Nat.reduceBEq, Nat.reduceAdd, Nat.reduceMul, Nat.reduceLeDiff, Nat.reduceEqDiff, Nat.reduceBNe, Nat.ble_eq, UInt8.reduceToNat] at hx; exact hx)) (fun _ => rfl) (fun r3 => ?_)
    | with_reducible refine call_to (fun _ (h : ref06_Expand l_0 most_1 = some _) => ref06_Expand_fe h) (fun r4 => ?_)
    | with_reducible refine call_to_q (fun _ (h : ref06_Expand l_0 most_1 = some _) => ref06_Expand_fe h) (fun _ => rfl) (fun r4 => ?_)
    | with_reducible refine call_to (fun _ (h : ref06_Expand l_0 most_1 = some _) => (by have hx := ref06_Expand_fe (s := s) h; simp -implicitDefEqProofs only [go_sem, start, startE, resVs, resV, resC, allV, retK, Nat.reduceBEq, Nat.reduceAdd, Nat.reduceMul, Nat.reduceLeDiff, Nat.reduceEqDiff, Nat.reduceBNe, Nat.ble_eq, UInt8.reduceToNat] at hx; exact hx)) (fun r4 => ?_)
    | with_reducible refine call_to_q (fun _ (h : ref06_Expand l_0 most_1 = some _) => (by have hx := ref06_Expand_fe (s := s) h; simp -implicitDefEqProofs only [go_sem, start, startE, resVs, resV, resC, allV, retK, Nat.reduceBEq, Nat.reduceAdd, Nat.reduceMul, Nat.reduceLeDiff, Nat.reduceEqDiff, Nat.reduceBNe, Nat.ble_eq, UInt8.reduceToNat] at hx; exact hx)) (fun _ => rfl) (fun r4 => ?_)
    | with_reducible refine call_to (fun _ (h : ref06_Expand l_0 16777216 = some _) => ref06_Expand_fe h) (fun r5 => ?_)
    | with_reducible refine call_to_q (fun _ (h : ref06_Expand l_0 16777216 = some _) => ref06_Expand_fe h) (fun _ => rfl) (fun r5 => ?_)
    | with_reducible refine call_to (fun _ (h : ref06_Expand l_0 16777216 = some _) => (by have hx := ref06_Expand_fe (s := s) h; simp -implicitDefEqProofs only [go_sem, start, startE, resVs, resV, resC, allV, retK, Nat.reduceBEq, Nat.reduceAdd, Nat.reduceMul, Nat.reduceLeDiff, Nat.reduceEqDiff, Nat.reduceBNe, Nat.ble_eq, UInt8.reduceToNat] at hx; exact hx)) (fun r5 => ?_)
    | with_reducible refine call_to_q (fun _ (h : ref06_Expand l_0 16777216 = some _) => (by have hx := ref06_Expand_fe (s := s) h; simp -implicitDefEqProofs only [go_sem, start, startE, resVs, resV, resC, allV, retK, Nat.reduceBEq, Nat.reduceAdd, Nat.reduceMul, Nat.reduceLeDiff, Nat.reduceEqDiff, Nat.reduceBNe, Nat.ble_eq, UInt8.reduceToNat] at hx; exact hx)) (fun _ => rfl) (fun r5 => ?_)
    | with_reducible refine call_to_g rfl (fun _ (h : law06_of l_0 = some _) => law06_of_fe h) (fun _ => rfl) (fun r6 => ?_)
    | with_reducible refine call_to_g rfl (fun _ (h : law06_of l_0 = some _) => (by have hx := law06_of_fe (s := s) h; simp -implicitDefEqProofs only [go_sem, start, startE, resVs, resV, resC, allV, retK, Nat.reduceBEq, Nat.reduceAdd, Nat.reduceMul, Nat.reduceLeDiff, Nat.reduceEqDiff, Nat.reduceBNe, Nat.ble_eq, UInt8.reduceToNat] at hx; exact hx)) (fun _ => rfl) (fun r6 => ?_)
    | with_reducible refine call_to_g rfl (fun _ (h : lz_Check r6 = some _) => lz_Check_fe h) (fun _ => rfl) (fun r7 => ?_)
    | with_reducible refine call_to_g rfl (fun _ (h : lz_Check r6 = some _) => (by have hx := lz_Check_fe (s := s) h; simp -implicitDefEqProofs only [go_sem, start, startE, resVs, resV, resC, allV, retK, Nat.reduceBEq, Nat.reduceAdd, Nat.reduceMul, Nat.reduceLeDiff, Nat.reduceEqDiff, Nat.reduceBNe, Nat.ble_eq, UInt8.reduceToNat] at hx; exact hx)) (fun _ => rfl) (fun r7 => ?_)
    | with_reducible refine call_to_g rfl (fun _ (h : law06_works = some _) => law06_works_fe h) (fun _ => rfl) (fun r8 => ?_)
    | with_reducible refine call_to_g rfl (fun _ (h : law06_works = some _) => (by have hx := law06_works_fe (s := s) h; simp -implicitDefEqProofs only [go_sem, start, startE, resVs, resV, resC, allV, retK, Nat.reduceBEq, Nat.reduceAdd, Nat.reduceMul, Nat.reduceLeDiff, Nat.reduceEqDiff, Nat.reduceBNe, Nat.ble_eq, UInt8.reduceToNat] at hx; exact hx)) (fun _ => rfl) (fun r8 => ?_)
    | simp -implicitDefEqProofs only [go_sem, start, startE, resVs, resV, resC, allV, retK, Nat.reduceBEq, Nat.reduceAdd, Nat.reduceMul, Nat.reduceLeDiff, Nat.reduceEqDiff, Nat.reduceBNe, Nat.ble_eq, UInt8.reduceToNat])
theorem law06_LzExpands_fe {l_0 most_1} {s : Store} {r : Bool}  (h : law06_LzExpands l_0 most_1 = some r) : FE Go.Proofs.Try.prog 3 [.sl false 3 l_0.length (flat l_0), .int .i64 most_1] s [.bool r] s := law06_LzExpands_fn   ⟨r, h, rfl, rfl⟩

/-- catchword/catchwordlaw06.LzBack -/
def law06_LzBack (b_0 : (List UInt8)) : Option (Bool) :=
  if decide ((b_0.length : Int) > 3000) then
    bnd (law06_works) fun r1 =>
    some r1
  else
    bnd (lz_Tokens b_0) fun r2 =>
    bnd (whenB (!(decide ((r2.length : Int) > (b_0.length : Int)))) 0 (lz_Check r2)) fun r3 =>
    if (decide ((r2.length : Int) > (b_0.length : Int))) || (r3 != 0) then
      some false
    else
      bnd (law06_back r2) fun r4 =>
      bnd (ref06_Expand r4 (b_0.length : Int)) fun r5 =>
      bnd (lz_Expand r2 (b_0.length : Int)) fun r6 =>
      bnd (whenB ((((r5.2 == 0) && ((Str.mk r5.1).b == (Str.mk b_0).b)) && (r6.2 == 0)) && ((Str.mk r6.1).b == (Str.mk b_0).b)) false (law06_works)) fun r7 =>
      some (((((r5.2 == 0) && ((Str.mk r5.1).b == (Str.mk b_0).b)) && (r6.2 == 0)) && ((Str.mk r6.1).b == (Str.mk b_0).b)) && r7)
def ir_law06_LzBack : IC :=
 (.seq (.reg none [i1 2 (.mov false (.c (.bool false)))] [0])
 (.seq (.seq (.reg none [mv 8 0,
 i1 9 (.len 0 (.t 8)),
 i1 10 (.bin .gtr (.t 9) (.c (.int .i64 3000)))] [0, 10])
 (.cond (.t 10) (.seq (.reg none [i1 11 (.call 7 []),
 mv 2 11] [2])
 .ret)
 .skip))
 (.seq (.reg none [mv 12 0,
 i1 13 (.call 12 [(.t 12)]),
 mt 3 13] [0, 3])
 (.seq (.seq (.reg (some 8) [mv 14 3,
 i1 15 (.len 0 (.t 14)),
 mv 16 0,
 i1 17 (.len 0 (.t 16)),
 i1 18 (.bin .gtr (.t 15) (.t 17)),
 mv 19 18,
 mvg 20 3 19 false,
 i1g 21 19 false (.call 11 [(.t 20)]),
 i1g 22 19 false (.bin .neq (.t 21) (.c (.int .i64 0))),
 i1 23 (.pick (.t 19) (.c (.bool true)) (.t 22))] [0, 3, 23])
 (.cond (.t 23) (.seq (.reg none [i1 2 (.mov false (.c (.bool false)))] [2])
 .ret)
 .skip))
 (.seq (.reg none [mv 25 3,
 i1 26 (.call 13 [(.t 25)]),
 mv 27 0,
 i1 28 (.len 0 (.t 27)),
 i1 29 (.call 10 [(.t 26), (.t 28)]),
 i1 24 (.movT (.t 29)),
 i1 30 (.extract (.t 24) 0),
 i1 31 (.extract (.t 24) 1),
 mt 4 30,
 mv 5 31] [0, 3, 4, 5])
 (.seq (.reg none [mt 33 3,
 mv 34 0,
 i1 35 (.len 0 (.t 34)),
 i1 36 (.call 8 [(.t 33), (.t 35)]),
 i1 32 (.movT (.t 36)),
 i1 37 (.extract (.t 32) 0),
 i1 38 (.extract (.t 32) 1),
 mt 6 37,
 mv 7 38] [0, 4, 5, 6, 7])
 (.seq (.reg (some 22) [mv 39 5,
 i1 40 (.bin .eql (.t 39) (.c (.int .i64 0))),
 mv 41 40,
 mvg 42 4 41 true,
 i1g 43 41 true (.cvtStr (.t 42)),
 mvg 44 0 41 true,
 i1g 45 41 true (.cvtStr (.t 44)),
 i1g 46 41 true (.bin .eql (.t 43) (.t 45)),
 i1 47 (.pick (.t 41) (.t 46) (.c (.bool false))),
 mv 48 47,
 mvg 49 7 48 true,
 i1g 50 48 true (.bin .eql (.t 49) (.c (.int .i64 0))),
 i1 51 (.pick (.t 48) (.t 50) (.c (.bool false))),
 mv 52 51,
 mvg 53 6 52 true,
 i1g 54 52 true (.cvtStr (.t 53)),
 mvg 55 0 52 true,
 i1g 56 52 true (.cvtStr (.t 55)),
 i1g 57 52 true (.bin .eql (.t 54) (.t 56)),
 i1 58 (.pick (.t 52) (.t 57) (.c (.bool false))),
 mv 59 58,
 i1g 60 59 true (.call 7 []),
 i1 61 (.pick (.t 59) (.t 60) (.c (.bool false))),
 mv 2 61] [2])
 .ret)))))))
def res_law06_LzBack : List IRes := [⟨2, true, none⟩]
theorem is_law06_LzBack : fnIs Go.Proofs.Try.prog 4 62 res_law06_LzBack ir_law06_LzBack = true := by kernel_rfl
theorem law06_LzBack_fn {b_0} {s : Store} {Q : List AV → Store → Prop}  : ok (law06_LzBack b_0) (fun r => Q [.bool r] s) → FN Go.Proofs.Try.prog 4 [.sl false 1 b_0.length (flat b_0)] s Q := by
  intro h
  refine FN.of (draw_ok mix) is_law06_LzBack rfl (Nat.le_of_ble_eq_true rfl) ?_
  revert h
  rw [ir_law06_LzBack, res_law06_LzBack, law06_LzBack]
  repeat' (first
    | with_reducible exact tt_to
    | with_reducible refine and_to ?_ ?_
    | with_reducible refine im_to ?_
    | with_reducible refine call_to (fun _ (h : law06_works = some _) => law06_works_fe h) (fun r1 => ?_)
    | with_reducible refine call_to_q (fun _ (h : law06_works = some _) => law06_works_fe h) (fun _ => rfl) (fun r1 => ?_)
    | with_reducible refine call_to (fun _ (h : law06_works = some _) => (by have hx := law06_works_fe (s := s) h; simp -implicitDefEqProofs only [go_sem, start, startE, resVs, resV, resC, allV, retK, Nat.reduceBEq, Nat.reduceAdd, Nat.reduceMul, Nat.reduceLeDiff, Nat.reduceEqDiff, Nat.reduceBNe, Nat.ble_eq, UInt8.reduceToNat] at hx; exact hx)) (fun r1 => ?_)
    | with_reducible refine call_to_q (fun _ (h : law06_works = some _) => (by have hx := law06_works_fe (s := s) h; simp -implicitDefEqProofs only [go_sem, start, startE, resVs, resV, resC, allV, retK, Nat.reduceBEq, Nat.reduceAdd, Nat.reduceMul, Nat.reduceLeDiff, Nat.reduceEqDiff, Nat.reduceBNe, Nat.ble_eq, UInt8.reduceToNat] at hx; exact hx)) (fun _ => rfl) (fun r1 => ?_)
    | with_reducible refine call_to (fun _ (h : lz_Tokens b_0 = some _) => lz_Tokens_fe h) (fun r2 => ?_)
    | with_reducible refine call_to_q (fun _ (h : lz_Tokens b_0 = some _) => lz_Tokens_fe h) (fun _ => rfl) (fun r2 => ?_)
    | with_reducible refine call_to (fun _ (h : lz_Tokens b_0 = some _) => (by have hx := lz_Tokens_fe (s := s) h; simp -implicitDefEqProofs only [go_sem, start, startE, resVs, resV, resC, allV, retK, Nat.reduceBEq, Nat.reduceAdd, Nat.reduceMul, Nat.reduceLeDiff, Nat.reduceEqDiff, Nat.reduceBNe, Nat.ble_eq, UInt8.reduceToNat] at hx; exact hx)) (fun r2 => ?_)
    | with_reducible refine call_to_q (fun _ (h : lz_Tokens b_0 = some _) => (by have hx := lz_Tokens_fe (s := s) h; simp -implicitDefEqProofs only [go_sem, start, startE, resVs, resV, resC, allV, retK, Nat.reduceBEq, Nat.reduceAdd, Nat.reduceMul, Nat.reduceLeDiff, Nat.reduceEqDiff, Nat.reduceBNe, Nat.ble_eq, UInt8.reduceToNat] at hx; exact hx)) (fun _ => rfl) (fun r2 => ?_)
    | with_reducible refine call_to_g rfl (fun _ (h : lz_Check r2 = some _) => lz_Check_fe h) (fun _ => rfl) (fun r3 => ?_)
    | with_reducible refine call_to_g rfl (fun _ (h : lz_Check r2 = some _) => (by have hx := lz_Check_fe (s := s) h; simp -implicitDefEqProofs only [go_sem, start, startE, resVs, resV, resC, allV, retK, Nat.reduceBEq, Nat.reduceAdd, Nat.reduceMul, Nat.reduceLeDiff, Nat.reduceEqDiff, Nat.reduceBNe, Nat.ble_eq, UInt8.reduceToNat] at hx; exact hx)) (fun _ => rfl) (fun r3 => ?_)
    | with_reducible refine call_to (fun _ (h : law06_back r2 = some _) => law06_back_fe h) (fun r4 => ?_)
    | with_reducible refine call_to_q (fun _ (h : law06_back r2 = some _) => law06_back_fe h) (fun _ => rfl) (fun r4 => ?_)
    | with_reducible refine call_to (fun _ (h : law06_back r2 = some _) => (by have hx := law06_back_fe (s := s) h; simp -implicitDefEqProofs only [go_sem, start, startE, resVs, resV, resC, allV, retK, Nat.reduceBEq, Nat.reduceAdd, Nat.reduceMul, Nat.reduceLeDiff, Nat.reduceEqDiff, Nat.reduceBNe, Nat.ble_eq, UInt8.reduceToNat] at hx; exact hx)) (fun r4 => ?_)
    | with_reducible refine call_to_q (fun _ (h : law06_back r2 = some _) => (by have hx := law06_back_fe (s := s) h; simp -implicitDefEqProofs only [go_sem, start, startE, resVs, resV, resC, allV, retK, Nat.reduceBEq, Nat.reduceAdd, Nat.reduceMul, Nat.reduceLeDiff, Nat.reduceEqDiff, Nat.reduceBNe, Nat.ble_eq, UInt8.reduceToNat] at hx; exact hx)) (fun _ => rfl) (fun r4 => ?_)
    | with_reducible refine call_to (fun _ (h : ref06_Expand r4 (b_0.length : Int) = some _) => ref06_Expand_fe h) (fun r5 => ?_)
    | with_reducible refine call_to_q (fun _ (h : ref06_Expand r4 (b_0.length : Int) = some _) => ref06_Expand_fe h) (fun _ => rfl) (fun r5 => ?_)
    | with_reducible refine call_to (fun _ (h : ref06_Expand r4 (b_0.length : Int) = some _) => (by have hx := ref06_Expand_fe (s := s) h; simp -implicitDefEqProofs only [go_sem, start, startE, resVs, resV, resC, allV, retK, Nat.reduceBEq, Nat.reduceAdd, Nat.reduceMul, Nat.reduceLeDiff, Nat.reduceEqDiff, Nat.reduceBNe, Nat.ble_eq, UInt8.reduceToNat] at hx; exact hx)) (fun r5 => ?_)
    | with_reducible refine call_to_q (fun _ (h : ref06_Expand r4 (b_0.length : Int) = some _) => (by have hx := ref06_Expand_fe (s := s) h; simp -implicitDefEqProofs only [go_sem, start, startE, resVs, resV, resC, allV, retK, Nat.reduceBEq, Nat.reduceAdd, Nat.reduceMul, Nat.reduceLeDiff, Nat.reduceEqDiff, Nat.reduceBNe, Nat.ble_eq, UInt8.reduceToNat] at hx; exact hx)) (fun _ => rfl) (fun r5 => ?_)
    | with_reducible refine call_to (fun _ (h : lz_Expand r2 (b_0.length : Int) = some _) => lz_Expand_fe h) (fun r6 => ?_)
    | with_reducible refine call_to_q (fun _ (h : lz_Expand r2 (b_0.length : Int) = some _) => lz_Expand_fe h) (fun _ => rfl) (fun r6 => ?_)
    | with_reducible refine call_to (fun _ (h : lz_Expand r2 (b_0.length : Int) = some _) => (by have hx := lz_Expand_fe (s := s) h; simp -implicitDefEqProofs only [go_sem, start, startE, resVs, resV, resC, allV, retK, Nat.reduceBEq, Nat.reduceAdd, Nat.reduceMul, Nat.reduceLeDiff, Nat.reduceEqDiff, Nat.reduceBNe, Nat.ble_eq, UInt8.reduceToNat] at hx; exact hx)) (fun r6 => ?_)
    | with_reducible refine call_to_q (fun _ (h : lz_Expand r2 (b_0.length : Int) = some _) => (by have hx := lz_Expand_fe (s := s) h; simp -implicitDefEqProofs only [go_sem, start, startE, resVs, resV, resC, allV, retK, Nat.reduceBEq, Nat.reduceAdd, Nat.reduceMul, Nat.reduceLeDiff, Nat.reduceEqDiff, Nat.reduceBNe, Nat.ble_eq, UInt8.reduceToNat] at hx; exact hx)) (fun _ => rfl) (fun r6 => ?_)
    | with_reducible refine call_to_g rfl (fun _ (h : law06_works = some _) => law06_works_fe h) (fun _ => rfl) (fun r7 => ?_)
    | with_reducible refine call_to_g rfl (fun _ (h : law06_works = some _) => (by have hx := law06_works_fe (s := s) h; simp -implicitDefEqProofs only [go_sem, start, startE, resVs, resV, resC, allV, retK, Nat.reduceBEq, Nat.reduceAdd, Nat.reduceMul, Nat.reduceLeDiff, Nat.reduceEqDiff, Nat.reduceBNe, Nat.ble_eq, UInt8.reduceToNat] at hx; exact hx)) (fun _ => rfl) (fun r7 => ?_)
    | simp -implicitDefEqProofs only [go_sem, start, startE, resVs, resV, resC, allV, retK, Nat.reduceBEq, Nat.reduceAdd, Nat.reduceMul, Nat.reduceLeDiff, Nat.reduceEqDiff, Nat.reduceBNe, Nat.ble_eq, UInt8.reduceToNat])
theorem law06_LzBack_fe {b_0} {s : Store} {r : Bool}  (h : law06_LzBack b_0 = some r) : FE Go.Proofs.Try.prog 4 [.sl false 1 b_0.length (flat b_0)] s [.bool r] s := law06_LzBack_fn   ⟨r, h, rfl, rfl⟩

/-- catchword/catchwordlaw06.LzMatches -/
def law06_LzMatches (b_0 : (List UInt8)) (n_1 : arr3_Int) : Option (Bool) :=
  if decide ((b_0.length : Int) > 3000) then
    bnd (law06_works) fun r1 =>
    some r1
  else
    bnd (lz_Match b_0 n_1.a0 n_1.a1 n_1.a2) fun r2 =>
    bnd (ref06_Match b_0 n_1.a0 n_1.a1 n_1.a2) fun r3 =>
    bnd (whenB (r2 == r3) false (law06_works)) fun r4 =>
    some ((r2 == r3) && r4)
def ir_law06_LzMatches : IC :=
 (.seq (.reg none [i1 3 (.boxL 3 (.t 1)),
 i1 4 (.mov false (.c (.bool false)))] [0, 3])
 (.seq (.seq (.reg none [mv 5 0,
 i1 6 (.len 0 (.t 5)),
 i1 7 (.bin .gtr (.t 6) (.c (.int .i64 3000)))] [0, 3, 7])
 (.cond (.t 7) (.seq (.reg none [i1 8 (.call 7 []),
 mv 4 8] [4])
 .ret)
 .skip))
 (.seq (.reg (some 21) [mv 9 0,
 i1 10 (.aindexAddr 1 3 (.t 3) (.c (.int .i64 0))),
 i1 11 (.load 1 false (.t 10)),
 i1 12 (.aindexAddr 1 3 (.t 3) (.c (.int .i64 1))),
 i1 13 (.load 1 false (.t 12)),
 i1 14 (.aindexAddr 1 3 (.t 3) (.c (.int .i64 2))),
 i1 15 (.load 1 false (.t 14)),
 i1 16 (.call 14 [(.t 9), (.t 11), (.t 13), (.t 15)]),
 mv 17 0,
 i1 18 (.aindexAddr 1 3 (.t 3) (.c (.int .i64 0))),
 i1 19 (.load 1 false (.t 18)),
 i1 20 (.aindexAddr 1 3 (.t 3) (.c (.int .i64 1))),
 i1 21 (.load 1 false (.t 20)),
 i1 22 (.aindexAddr 1 3 (.t 3) (.c (.int .i64 2))),
 i1 23 (.load 1 false (.t 22)),
 i1 24 (.call 15 [(.t 17), (.t 19), (.t 21), (.t 23)]),
 i1 25 (.bin .eql (.t 16) (.t 24)),
 mv 26 25,
 i1g 27 26 true (.call 7 []),
 i1 28 (.pick (.t 26) (.t 27) (.c (.bool false))),
 mv 4 28] [4])
 .ret)))
def res_law06_LzMatches : List IRes := [⟨4, true, none⟩]
theorem is_law06_LzMatches : fnIs Go.Proofs.Try.prog 5 29 res_law06_LzMatches ir_law06_LzMatches = true := by kernel_rfl
theorem law06_LzMatches_fn {b_0 n_1} {s : Store} {Q : List AV → Store → Prop}  : ok (law06_LzMatches b_0 n_1) (fun r => Q [.bool r] s) → FN Go.Proofs.Try.prog 5 [.sl false 1 b_0.length (flat b_0), .agg [.int .i64 n_1.a0, .int .i64 n_1.a1, .int .i64 n_1.a2]] s Q := by
  intro h
  refine FN.of (draw_ok mix) is_law06_LzMatches rfl (Nat.le_of_ble_eq_true rfl) ?_
  revert h
  rw [ir_law06_LzMatches, res_law06_LzMatches, law06_LzMatches]
  repeat' (first
    | with_reducible exact tt_to
    | with_reducible refine and_to ?_ ?_
    | with_reducible refine im_to ?_
    | with_reducible refine call_to (fun _ (h : law06_works = some _) => law06_works_fe h) (fun r1 => ?_)
    | with_reducible refine call_to_q (fun _ (h : law06_works = some _) => law06_works_fe h) (fun _ => rfl) (fun r1 => ?_)
    | with_reducible refine call_to (fun _ (h : law06_works = some _) => (by have hx := law06_works_fe (s := s) h; simp -implicitDefEqProofs only [go_sem, start, startE, resVs, resV, resC, allV, retK, Nat.reduceBEq, Nat.reduceAdd, Nat.reduceMul, Nat.reduceLeDiff, Nat.reduceEqDiff, Nat.reduceBNe, Nat.ble_eq, UInt8.reduceToNat] at hx; exact hx)) (fun r1 => ?_)
    | with_reducible refine call_to_q (fun _ (h : law06_works = some _) => (by have hx := law06_works_fe (s := s) h; simp -implicitDefEqProofs only [go_sem, start, startE, resVs, resV, resC, allV, retK, Nat.reduceBEq, Nat.reduceAdd, Nat.reduceMul, Nat.reduceLeDiff, Nat.reduceEqDiff, Nat.reduceBNe, Nat.ble_eq, UInt8.reduceToNat] at hx; exact hx)) (fun _ => rfl) (fun r1 => ?_)
    | with_reducible refine call_to (fun _ (h : lz_Match b_0 n_1.a0 n_1.a1 n_1.a2 = some _) => lz_Match_fe h) (fun r2 => ?_)
    | with_reducible refine call_to_q (fun _ (h : lz_Match b_0 n_1.a0 n_1.a1 n_1.a2 = some _) => lz_Match_fe h) (fun _ => rfl) (fun r2 => ?_)
    | with_reducible refine call_to (fun _ (h : lz_Match b_0 n_1.a0 n_1.a1 n_1.a2 = some _) => (by have hx := lz_Match_fe (s := s) h; simp -implicitDefEqProofs only [go_sem, start, startE, resVs, resV, resC, allV, retK, Nat.reduceBEq, Nat.reduceAdd, Nat.reduceMul, Nat.reduceLeDiff, Nat.reduceEqDiff, Nat.reduceBNe, Nat.ble_eq, UInt8.reduceToNat] at hx; exact hx)) (fun r2 => ?_)
    | with_reducible refine call_to_q (fun _ (h : lz_Match b_0 n_1.a0 n_1.a1 n_1.a2 = some _) => (by have hx := lz_Match_fe (s := s) h; simp -implicitDefEqProofs only [go_sem, start, startE, resVs, resV, resC, allV, retK, Nat.reduceBEq, Nat.reduceAdd, Nat.reduceMul, Nat.reduceLeDiff, Nat.reduceEqDiff, Nat.reduceBNe, Nat.ble_eq, UInt8.reduceToNat] at hx; exact hx)) (fun _ => rfl) (fun r2 => ?_)
    | with_reducible refine call_to (fun _ (h : ref06_Match b_0 n_1.a0 n_1.a1 n_1.a2 = some _) => ref06_Match_fe h) (fun r3 => ?_)
    | with_reducible refine call_to_q (fun _ (h : ref06_Match b_0 n_1.a0 n_1.a1 n_1.a2 = some _) => ref06_Match_fe h) (fun _ => rfl) (fun r3 => ?_)
    | with_reducible refine call_to (fun _ (h : ref06_Match b_0 n_1.a0 n_1.a1 n_1.a2 = some _) => (by have hx := ref06_Match_fe (s := s) h; simp -implicitDefEqProofs only [go_sem, start, startE, resVs, resV, resC, allV, retK, Nat.reduceBEq, Nat.reduceAdd, Nat.reduceMul, Nat.reduceLeDiff, Nat.reduceEqDiff, Nat.reduceBNe, Nat.ble_eq, UInt8.reduceToNat] at hx; exact hx)) (fun r3 => ?_)
    | with_reducible refine call_to_q (fun _ (h : ref06_Match b_0 n_1.a0 n_1.a1 n_1.a2 = some _) => (by have hx := ref06_Match_fe (s := s) h; simp -implicitDefEqProofs only [go_sem, start, startE, resVs, resV, resC, allV, retK, Nat.reduceBEq, Nat.reduceAdd, Nat.reduceMul, Nat.reduceLeDiff, Nat.reduceEqDiff, Nat.reduceBNe, Nat.ble_eq, UInt8.reduceToNat] at hx; exact hx)) (fun _ => rfl) (fun r3 => ?_)
    | with_reducible refine call_to_g rfl (fun _ (h : law06_works = some _) => law06_works_fe h) (fun _ => rfl) (fun r4 => ?_)
    | with_reducible refine call_to_g rfl (fun _ (h : law06_works = some _) => (by have hx := law06_works_fe (s := s) h; simp -implicitDefEqProofs only [go_sem, start, startE, resVs, resV, resC, allV, retK, Nat.reduceBEq, Nat.reduceAdd, Nat.reduceMul, Nat.reduceLeDiff, Nat.reduceEqDiff, Nat.reduceBNe, Nat.ble_eq, UInt8.reduceToNat] at hx; exact hx)) (fun _ => rfl) (fun r4 => ?_)
    | simp -implicitDefEqProofs only [go_sem, start, startE, resVs, resV, resC, allV, retK, Nat.reduceBEq, Nat.reduceAdd, Nat.reduceMul, Nat.reduceLeDiff, Nat.reduceEqDiff, Nat.reduceBNe, Nat.ble_eq, UInt8.reduceToNat])
theorem law06_LzMatches_fe {b_0 n_1} {s : Store} {r : Bool}  (h : law06_LzMatches b_0 n_1 = some r) : FE Go.Proofs.Try.prog 5 [.sl false 1 b_0.length (flat b_0), .agg [.int .i64 n_1.a0, .int .i64 n_1.a1, .int .i64 n_1.a2]] s [.bool r] s := law06_LzMatches_fn   ⟨r, h, rfl, rfl⟩

/-- catchword/catchwordlaw06.LzFewer -/
def law06_LzFewer (a_0 : (List UInt8)) (b_1 : (List UInt8)) (x_2 : UInt8) : Option (Bool) :=
  if (decide ((a_0.length : Int) > 1000)) || (decide ((b_1.length : Int) > 1000)) then
    bnd (law06_works) fun r1 =>
    some r1
  else
    need ((([] : List UInt8).length + a_0.length) * 1 ≤ room) <|
    need ((a_0.length + [x_2, x_2, x_2, x_2, x_2, x_2].length) * 1 ≤ room) <|
    need (((a_0 ++ [x_2, x_2, x_2, x_2, x_2, x_2]).length + b_1.length) * 1 ≤ room) <|
    bnd (lz_Tokens ((a_0 ++ [x_2, x_2, x_2, x_2, x_2, x_2]) ++ b_1)) fun r2 =>
    if decide ((r2.length : Int) ≥ (((a_0 ++ [x_2, x_2, x_2, x_2, x_2, x_2]) ++ b_1).length : Int)) then
      some false
    else
      need ((([] : List UInt8).length + a_0.length) * 1 ≤ room) <|
      need ((a_0.length + a_0.length) * 1 ≤ room) <|
      bnd (whenB (!(decide ((a_0.length : Int) < 6))) [] (lz_Tokens (a_0 ++ a_0))) fun r3 =>
      bnd (whenB ((decide ((a_0.length : Int) < 6)) || (decide ((r3.length : Int) < ((a_0 ++ a_0).length : Int)))) false (law06_works)) fun r4 =>
      some (((decide ((a_0.length : Int) < 6)) || (decide ((r3.length : Int) < ((a_0 ++ a_0).length : Int)))) && r4)
def ir_law06_LzFewer : IC :=
 (.seq (.reg none [i1 6 (.mov false (.c (.bool false)))] [0, 1, 2])
 (.seq (.seq (.reg none [mv 9 0,
 i1 10 (.len 0 (.t 9)),
 i1 11 (.bin .gtr (.t 10) (.c (.int .i64 1000))),
 mv 12 11,
 mvg 13 1 12 false,
 i1g 14 12 false (.len 0 (.t 13)),
 i1g 15 12 false (.bin .gtr (.t 14) (.c (.int .i64 1000))),
 i1 16 (.pick (.t 12) (.c (.bool true)) (.t 15))] [0, 1, 2, 16])
 (.cond (.t 16) (.seq (.reg none [i1 17 (.call 7 []),
 mv 6 17] [6])
 .ret)
 .skip))
 (.seq (.reg none [i1 18 (.buildSl 1 0 [] []),
 mv 19 0,
 i1 20 (.append 1 1 (.t 18) (.t 19)),
 mv 21 2,
 mv 22 2,
 mv 23 2,
 mv 24 2,
 mv 25 2,
 mv 26 2,
 i1 27 (.buildSl 1 6 [.int .u8 0, .int .u8 0, .int .u8 0, .int .u8 0, .int .u8 0, .int .u8 0] [(0, 1, (.t 21)), (1, 1, (.t 22)), (2, 1, (.t 23)), (3, 1, (.t 24)), (4, 1, (.t 25)), (5, 1, (.t 26))]),
 i1 28 (.append 1 1 (.t 20) (.t 27)),
 mt 29 1,
 i1 30 (.append 1 1 (.t 28) (.t 29)),
 mt 7 30] [0, 7])
 (.seq (.seq (.reg none [mv 31 7,
 i1 32 (.call 12 [(.t 31)]),
 i1 33 (.len 0 (.t 32)),
 mt 34 7,
 i1 35 (.len 0 (.t 34)),
 i1 36 (.bin .geq (.t 33) (.t 35))] [0, 36])
 (.cond (.t 36) (.seq (.reg none [i1 6 (.mov false (.c (.bool false)))] [6])
 .ret)
 .skip))
 (.seq (.reg none [i1 37 (.buildSl 1 0 [] []),
 mv 38 0,
 i1 39 (.append 1 1 (.t 37) (.t 38)),
 mv 40 0,
 i1 41 (.append 1 1 (.t 39) (.t 40)),
 mt 8 41] [0, 8])
 (.seq (.reg (some 13) [mv 42 0,
 i1 43 (.len 0 (.t 42)),
 i1 44 (.bin .lss (.t 43) (.c (.int .i64 6))),
 mv 45 44,
 mvg 46 8 45 false,
 i1g 47 45 false (.call 12 [(.t 46)]),
 i1g 48 45 false (.len 0 (.t 47)),
 mvg 49 8 45 false,
 i1g 50 45 false (.len 0 (.t 49)),
 i1g 51 45 false (.bin .lss (.t 48) (.t 50)),
 i1 52 (.pick (.t 45) (.c (.bool true)) (.t 51)),
 mv 53 52,
 i1g 54 53 true (.call 7 []),
 i1 55 (.pick (.t 53) (.t 54) (.c (.bool false))),
 mv 6 55] [6])
 .ret))))))
def res_law06_LzFewer : List IRes := [⟨6, true, none⟩]
theorem is_law06_LzFewer : fnIs Go.Proofs.Try.prog 6 56 res_law06_LzFewer ir_law06_LzFewer = true := by kernel_rfl
theorem law06_LzFewer_fn {a_0 b_1 x_2} {s : Store} {Q : List AV → Store → Prop}  : ok (law06_LzFewer a_0 b_1 x_2) (fun r => Q [.bool r] s) → FN Go.Proofs.Try.prog 6 [.sl false 1 a_0.length (flat a_0), .sl false 1 b_1.length (flat b_1), .int .u8 x_2.toNat] s Q := by
  intro h
  refine FN.of (draw_ok mix) is_law06_LzFewer rfl (Nat.le_of_ble_eq_true rfl) ?_
  revert h
  rw [ir_law06_LzFewer, res_law06_LzFewer, law06_LzFewer]
  repeat' (first
    | with_reducible exact tt_to
    | with_reducible refine and_to ?_ ?_
    | with_reducible refine im_to ?_
    | with_reducible refine call_to (fun _ (h : law06_works = some _) => law06_works_fe h) (fun r1 => ?_)
    | with_reducible refine call_to_q (fun _ (h : law06_works = some _) => law06_works_fe h) (fun _ => rfl) (fun r1 => ?_)
    | with_reducible refine call_to (fun _ (h : law06_works = some _) => (by have hx := law06_works_fe (s := s) h; simp -implicitDefEqProofs only [go_sem, start, startE, resVs, resV, resC, allV, retK, Nat.reduceBEq, Nat.reduceAdd, Nat.reduceMul, Nat.reduceLeDiff, Nat.reduceEqDiff, Nat.reduceBNe, Nat.ble_eq, UInt8.reduceToNat] at hx; exact hx)) (fun r1 => ?_)
    | with_reducible refine call_to_q (fun _ (h : law06_works = some _) => (by have hx := law06_works_fe (s := s) h; simp -implicitDefEqProofs only [go_sem, start, startE, resVs, resV, resC, allV, retK, Nat.reduceBEq, Nat.reduceAdd, Nat.reduceMul, Nat.reduceLeDiff, Nat.reduceEqDiff, Nat.reduceBNe, Nat.ble_eq, UInt8.reduceToNat] at hx; exact hx)) (fun _ => rfl) (fun r1 => ?_)
    | with_reducible refine call_to (fun _ (h : lz_Tokens ((a_0 ++ [x_2, x_2, x_2, x_2, x_2, x_2]) ++ b_1) = some _) => lz_Tokens_fe h) (fun r2 => ?_)
    | with_reducible refine call_to_q (fun _ (h : lz_Tokens ((a_0 ++ [x_2, x_2, x_2, x_2, x_2, x_2]) ++ b_1) = some _) => lz_Tokens_fe h) (fun _ => rfl) (fun r2 => ?_)
    | with_reducible refine call_to (fun _ (h : lz_Tokens ((a_0 ++ [x_2, x_2, x_2, x_2, x_2, x_2]) ++ b_1) = some _) => (by have hx := lz_Tokens_fe (s := s) h; simp -implicitDefEqProofs only [go_sem, start, startE, resVs, resV, resC, allV, retK, Nat.reduceBEq, Nat.reduceAdd, Nat.reduceMul, Nat.reduceLeDiff, Nat.reduceEqDiff, Nat.reduceBNe, Nat.ble_eq, UInt8.reduceToNat] at hx; exact hx)) (fun r2 => ?_)
    | with_reducible refine call_to_q (fun _ (h : lz_Tokens ((a_0 ++ [x_2, x_2, x_2, x_2, x_2, x_2]) ++ b_1) = some _) => (by have hx := lz_Tokens_fe (s := s) h; simp -implicitDefEqProofs only [go_sem, start, startE, resVs, resV, resC, allV, retK, Nat.reduceBEq, Nat.reduceAdd, Nat.reduceMul, Nat.reduceLeDiff, Nat.reduceEqDiff, Nat.reduceBNe, Nat.ble_eq, UInt8.reduceToNat] at hx; exact hx)) (fun _ => rfl) (fun r2 => ?_)
    | with_reducible refine call_to_g rfl (fun _ (h : lz_Tokens (a_0 ++ a_0) = some _) => lz_Tokens_fe h) (fun _ => rfl) (fun r3 => ?_)
    | with_reducible refine call_to_g rfl (fun _ (h : lz_Tokens (a_0 ++ a_0) = some _) => (by have hx := lz_Tokens_fe (s := s) h; simp -implicitDefEqProofs only [go_sem, start, startE, resVs, resV, resC, allV, retK, Nat.reduceBEq, Nat.reduceAdd, Nat.reduceMul, Nat.reduceLeDiff, Nat.reduceEqDiff, Nat.reduceBNe, Nat.ble_eq, UInt8.reduceToNat] at hx; exact hx)) (fun _ => rfl) (fun r3 => ?_)
    | with_reducible refine call_to_g rfl (fun _ (h : law06_works = some _) => law06_works_fe h) (fun _ => rfl) (fun r4 => ?_)
    | with_reducible refine call_to_g rfl (fun _ (h : law06_works = some _) => (by have hx := law06_works_fe (s := s) h; simp -implicitDefEqProofs only [go_sem, start, startE, resVs, resV, resC, allV, retK, Nat.reduceBEq, Nat.reduceAdd, Nat.reduceMul, Nat.reduceLeDiff, Nat.reduceEqDiff, Nat.reduceBNe, Nat.ble_eq, UInt8.reduceToNat] at hx; exact hx)) (fun _ => rfl) (fun r4 => ?_)
    | simp -implicitDefEqProofs only [go_sem, start, startE, resVs, resV, resC, allV, retK, Nat.reduceBEq, Nat.reduceAdd, Nat.reduceMul, Nat.reduceLeDiff, Nat.reduceEqDiff, Nat.reduceBNe, Nat.ble_eq, UInt8.reduceToNat])
theorem law06_LzFewer_fe {a_0 b_1 x_2} {s : Store} {r : Bool}  (h : law06_LzFewer a_0 b_1 x_2 = some r) : FE Go.Proofs.Try.prog 6 [.sl false 1 a_0.length (flat a_0), .sl false 1 b_1.length (flat b_1), .int .u8 x_2.toNat] s [.bool r] s := law06_LzFewer_fn   ⟨r, h, rfl, rfl⟩

end Go.AB
