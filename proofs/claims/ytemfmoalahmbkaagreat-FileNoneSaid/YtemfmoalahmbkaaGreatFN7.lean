/- The law FileNone returns true for every input; each argument reads behind the call as it read before. No condition. -/
import Derived.Test.YtemfmoalahmbkaaGreatFN6
import Derived.Test.YtemfmoalahmbkaaGreatFN4
import Derived.ProofKit
import Derived.OpenShut
import Derived.ChangeCalls
import Derived.Test.YtemfmoalahmbkaaGreatRows
import Derived.JoinedCond
set_option linter.unusedSimpArgs false
set_option linter.unusedVariables false
section
set_option maxRecDepth 4000
namespace Go.AB
open Go
attribute [-go_sem] Nat.add_zero ge_0 part_zero
def ir_file_is : IC :=
 (.seq (.reg none [i1 2 (.mov false (.c (.bool false)))] [0])
 (.seq (.reg none [mv 3 0,
 i1 4 (.eqP true (.t 3) (.c (.nilp))),
 mv 5 4,
 mvg 6 0 5 true,
 i1g 7 5 true (.nilCheck (.t 6)),
 i1g 8 5 true (.fieldAddr 2 (.t 7)),
 i1g 9 5 true (.load 1 false (.t 8)),
 i1g 10 5 true (.eqF true (.t 9)),
 i1 11 (.pick (.t 5) (.t 10) (.c (.bool false))),
 mv 2 11] [2])
 .ret))
def res_file_is : List IRes := [⟨2, true, none⟩]
theorem is_file_is : fnIs Go.Proofs.Tryz.prog 69 12 res_file_is ir_file_is = true := by kernel_rfl
def ir_file_Root : IC :=
 (.seq (.reg none [i1 2 (.mov false (.c (.int .i64 0)))] [0])
 (.seq (.seq (.reg none [mv 3 0,
 i1 4 (.call 69 [(.t 3)]),
 i1 5 (.un .not (.t 4))] [0, 5])
 (.cond (.t 5) (.seq (.reg none [i1 2 (.mov false (.c (.int .i64 0)))] [2])
 .ret)
 .skip))
 (.seq (.reg none [mv 6 0,
 i1 7 (.nilCheck (.t 6)),
 i1 8 (.fieldAddr 0 (.t 7)),
 i1 9 (.load 1 false (.t 8)),
 mv 2 9] [2])
 .ret)))
def res_file_Root : List IRes := [⟨2, true, none⟩]
theorem is_file_Root : fnIs Go.Proofs.Tryz.prog 23 10 res_file_Root ir_file_Root = true := by kernel_rfl
def ir_file_Count : IC :=
 (.seq (.reg none [i1 2 (.mov false (.c (.int .i64 0)))] [0])
 (.seq (.seq (.reg none [mv 3 0,
 i1 4 (.call 69 [(.t 3)]),
 i1 5 (.un .not (.t 4))] [0, 5])
 (.cond (.t 5) (.seq (.reg none [i1 2 (.mov false (.c (.int .i64 0)))] [2])
 .ret)
 .skip))
 (.seq (.reg none [mv 6 0,
 i1 7 (.nilCheck (.t 6)),
 i1 8 (.fieldAddr 1 (.t 7)),
 i1 9 (.load 1 false (.t 8)),
 mv 2 9] [2])
 .ret)))
def res_file_Count : List IRes := [⟨2, true, none⟩]
theorem is_file_Count : fnIs Go.Proofs.Tryz.prog 24 10 res_file_Count ir_file_Count = true := by kernel_rfl
def ir_file_Get : IC :=
 (.seq (.reg none [i1 4 (.allocL [.int .i64 0, .int .i64 0, .str [], .sl true 4 0 [], .bool false, .str []]),
 i1 5 (.mov false (.c (.int .i64 0))),
 i1 6 (.mov false (.c (.int .i64 0)))] [0, 1, 4])
 (.seq (.seq (.reg none [mv 7 0,
 i1 8 (.call 69 [(.t 7)]),
 i1 9 (.un .not (.t 8))] [0, 1, 4, 9])
 (.cond (.t 9) (.seq (.reg none [i1 10 (.build [.int .i64 0, .int .i64 0, .str [], .sl true 4 0 [], .bool false, .str []] []),
 i0 (.store 6 (.t 4) (.t 10)),
 i1 5 (.mov false (.c (.int .i64 0))),
 i1 6 (.mov false (.c (.int .i64 1)))] [4, 5, 6])
 .ret)
 .skip))
 (.seq (.reg none [mv 11 0,
 i1 12 (.nilCheck (.t 11)),
 i1 13 (.fieldAddr 2 (.t 12)),
 i1 14 (.load 1 false (.t 13)),
 mv 15 1,
 i1 16 (.callv (.t 14) [(.t 15)]),
 i1 17 (.extract (.t 16) 0),
 i1 18 (.extract (.t 16) 1),
 i1 19 (.extract (.t 16) 2),
 i0 (.store 6 (.t 4) (.t 17)),
 mv 5 18,
 mv 6 19] [4, 5, 6])
 .ret)))
def res_file_Get : List IRes := [⟨4, false, some (6, true)⟩, ⟨5, true, none⟩, ⟨6, true, none⟩]
theorem is_file_Get : fnIs Go.Proofs.Tryz.prog 18 20 res_file_Get ir_file_Get = true := by kernel_rfl
def ir_file_New : IC :=
 (.seq (.reg none [i1 2 (.boxS 1 (.t 0)),
 i1 3 (.boxS 2 (.t 1)),
 i1 4 (.mov false (.c (.nilp)))] [2, 3])
 (.seq (.reg none [i1 5 (.fieldAddr 1 (.t 3)),
 i1 6 (.load 1 false (.t 5)),
 i1 7 (.fieldAddr 0 (.t 3)),
 i1 8 (.load 1 false (.t 7)),
 i1 9 (.len 0 (.t 8)),
 i1 10 (.makeFn 63 [] [(.t 3), (.t 2)]),
 i1 11 (.build [.int .i64 0, .int .i64 0, .nilf] [(0, 1, (.t 6)), (1, 1, (.t 9)), (2, 1, (.t 10))]),
 i1 12 (.boxS 3 (.t 11)),
 mv 4 12] [4])
 .ret))
def res_file_New : List IRes := [⟨4, true, none⟩]
theorem is_file_New : fnIs Go.Proofs.Tryz.prog 16 13 res_file_New ir_file_New = true := by kernel_rfl
def ir_file_New1 : IC :=
 (.seq (.reg none [i1 4 (.allocL [.int .i64 0, .int .i64 0, .str [], .sl true 4 0 [], .bool false, .str []]),
 i1 5 (.mov false (.c (.int .i64 0))),
 i1 6 (.mov false (.c (.int .i64 0)))] [0, 1, 2, 4])
 (.seq (.reg none [i1 14 (.load 2 true (.t 1)),
 mv 15 0,
 i1 16 (.call 64 [(.t 14), (.t 15)]),
 i1 13 (.movT (.t 16)),
 i1 17 (.extract (.t 13) 0),
 i1 18 (.extract (.t 13) 1),
 mv 7 17,
 mv 8 18] [0, 2, 4, 7, 8])
 (.seq (.block 0 (.seq (.reg none [mv 20 8,
 i1 21 (.un .not (.t 20)),
 mv 19 21] [0, 2, 4, 7, 19])
 (.cond (.t 19) (.seq (.reg none [i1 22 (.build [.int .i64 0, .int .i64 0, .str [], .sl true 4 0 [], .bool false, .str []] []),
 i0 (.store 6 (.t 4) (.t 22)),
 i1 5 (.mov false (.c (.int .i64 0))),
 i1 6 (.mov false (.c (.int .i64 0)))] [4, 5, 6])
 .ret)
 (.seq (.reg none [mv 24 7,
 i1 25 (.load 1 false (.t 2)),
 i1 26 (.call 65 [(.t 25)]),
 i1 27 (.bin .geq (.t 24) (.t 26)),
 mv 23 27] [0, 2, 4, 7, 23])
 (.cond (.t 23) (.seq (.reg none [i1 28 (.build [.int .i64 0, .int .i64 0, .str [], .sl true 4 0 [], .bool false, .str []] []),
 i0 (.store 6 (.t 4) (.t 28)),
 i1 5 (.mov false (.c (.int .i64 0))),
 i1 6 (.mov false (.c (.int .i64 18)))] [4, 5, 6])
 .ret)
 .skip)))))
 (.seq (.reg none [i1 30 (.load 1 false (.t 2)),
 mv 31 7,
 i1 32 (.call 66 [(.t 30), (.t 31)]),
 i1 29 (.movT (.t 32)),
 i1 33 (.extract (.t 29) 0),
 i1 34 (.extract (.t 29) 1),
 i1 35 (.extract (.t 29) 2),
 i1 36 (.extract (.t 29) 3),
 i1 10 (.allocL [.int .i64 0, .int .i64 0, .str [], .sl true 4 0 [], .bool false, .str []]),
 mv 9 33,
 i0 (.store 6 (.t 10) (.t 34)),
 mv 11 35,
 mv 12 36] [0, 4, 9, 10, 11, 12])
 (.seq (.block 1 (.seq (.reg none [mv 38 12,
 i1 39 (.bin .neq (.t 38) (.c (.int .i64 0))),
 mv 37 39] [0, 4, 9, 10, 11, 12, 37])
 (.cond (.t 37) (.seq (.reg none [i1 40 (.build [.int .i64 0, .int .i64 0, .str [], .sl true 4 0 [], .bool false, .str []] []),
 mv 41 11,
 mv 42 12,
 i0 (.store 6 (.t 4) (.t 40)),
 mv 5 41,
 mv 6 42] [4, 5, 6])
 .ret)
 (.seq (.reg none [mv 44 9,
 mv 45 0,
 i1 46 (.bin .neq (.t 44) (.t 45)),
 mv 43 46] [4, 10, 43])
 (.cond (.t 43) (.seq (.reg none [i1 47 (.build [.int .i64 0, .int .i64 0, .str [], .sl true 4 0 [], .bool false, .str []] []),
 i0 (.store 6 (.t 4) (.t 47)),
 i1 5 (.mov false (.c (.int .i64 0))),
 i1 6 (.mov false (.c (.int .i64 18)))] [4, 5, 6])
 .ret)
 .skip)))))
 (.seq (.reg none [i1 48 (.load 6 true (.t 10)),
 i0 (.store 6 (.t 4) (.t 48)),
 i1 5 (.mov false (.c (.int .i64 0))),
 i1 6 (.mov false (.c (.int .i64 0)))] [4, 5, 6])
 .ret))))))
def res_file_New1 : List IRes := [⟨4, false, some (6, true)⟩, ⟨5, true, none⟩, ⟨6, true, none⟩]
theorem is_file_New1 : fnIs Go.Proofs.Tryz.prog 63 49 res_file_New1 ir_file_New1 = true := by kernel_rfl
def FileAt (s : Store) (F : Nat) (root count : Int) (c : Nat) (caps : List AV) : Prop := s F = some (.cells [.int .i64 root, .int .i64 count, .fn c [] caps])
theorem file_is_fn {s : Store} {F c : Nat} {root count : Int} {caps : List AV} {Q : List AV → Store → Prop} (h : FileAt s F root count c caps) (hq : Q [.bool true] s) : FN Go.Proofs.Tryz.prog 69 [.ref F 0] s Q := by
  have h : s F = some (.cells [.int .i64 root, .int .i64 count, .fn c [] caps]) := h
  refine FN.weak (FN.of (draw_ok mix) is_file_is rfl (Nat.le_of_ble_eq_true rfl) ?_)
  rw [ir_file_is, res_file_is]
  simp -implicitDefEqProofs only [go_sem, start, startE, resVs, resV, resC, allV, retK, Nat.reduceBEq, Nat.reduceAdd, Nat.reduceMul, Nat.reduceLeDiff, Nat.reduceEqDiff, Nat.reduceBNe, Nat.ble_eq, UInt8.reduceToNat, UInt32.reduceToNat, h]
  exact ⟨s, Sub.refl s, hq⟩
theorem file_is_nil {s : Store} {Q : List AV → Store → Prop} (hq : Q [.bool false] s) : FN Go.Proofs.Tryz.prog 69 [.nilp] s Q := by
  refine FN.weak (FN.of (draw_ok mix) is_file_is rfl (Nat.le_of_ble_eq_true rfl) ?_)
  rw [ir_file_is, res_file_is]
  simp -implicitDefEqProofs only [go_sem, start, startE, resVs, resV, resC, allV, retK, Nat.reduceBEq, Nat.reduceAdd, Nat.reduceMul, Nat.reduceLeDiff, Nat.reduceEqDiff, Nat.reduceBNe, Nat.ble_eq, UInt8.reduceToNat, UInt32.reduceToNat]
  repeat' (first | exact ⟨s, Sub.refl s, hq⟩ | refine ⟨fun h => (by cases h), fun _ => ?_⟩ | simp -implicitDefEqProofs only [go_sem, start, startE, resVs, resV, resC, allV, retK, Nat.reduceBEq, Nat.reduceAdd, Nat.reduceMul, Nat.reduceLeDiff, Nat.reduceEqDiff, Nat.reduceBNe, Nat.ble_eq, UInt8.reduceToNat, UInt32.reduceToNat])
theorem file_Root_fn {s : Store} {F c : Nat} {root count : Int} {caps : List AV} {Q : List AV → Store → Prop} (h : FileAt s F root count c caps) (hq : Q [.int .i64 root] s) : FN Go.Proofs.Tryz.prog 23 [.ref F 0] s Q := by
  refine FN.weak (FN.of (draw_ok mix) is_file_Root rfl (Nat.le_of_ble_eq_true rfl) ?_)
  rw [ir_file_Root, res_file_Root]
  simp -implicitDefEqProofs only [go_sem, start, startE, resVs, resV, resC, allV, retK, Nat.reduceBEq, Nat.reduceAdd, Nat.reduceMul, Nat.reduceLeDiff, Nat.reduceEqDiff, Nat.reduceBNe, Nat.ble_eq, UInt8.reduceToNat, UInt32.reduceToNat]
  refine file_is_fn h ?_
  have h : s F = some (.cells [.int .i64 root, .int .i64 count, .fn c [] caps]) := h
  simp -implicitDefEqProofs only [go_sem, start, startE, resVs, resV, resC, allV, retK, Nat.reduceBEq, Nat.reduceAdd, Nat.reduceMul, Nat.reduceLeDiff, Nat.reduceEqDiff, Nat.reduceBNe, Nat.ble_eq, UInt8.reduceToNat, UInt32.reduceToNat, h]
  exact ⟨fun h => h.elim, fun _ => ⟨s, Sub.refl s, hq⟩⟩
theorem file_Count_fn {s : Store} {F c : Nat} {root count : Int} {caps : List AV} {Q : List AV → Store → Prop} (h : FileAt s F root count c caps) (hq : Q [.int .i64 count] s) : FN Go.Proofs.Tryz.prog 24 [.ref F 0] s Q := by
  refine FN.weak (FN.of (draw_ok mix) is_file_Count rfl (Nat.le_of_ble_eq_true rfl) ?_)
  rw [ir_file_Count, res_file_Count]
  simp -implicitDefEqProofs only [go_sem, start, startE, resVs, resV, resC, allV, retK, Nat.reduceBEq, Nat.reduceAdd, Nat.reduceMul, Nat.reduceLeDiff, Nat.reduceEqDiff, Nat.reduceBNe, Nat.ble_eq, UInt8.reduceToNat, UInt32.reduceToNat]
  refine file_is_fn h ?_
  have h : s F = some (.cells [.int .i64 root, .int .i64 count, .fn c [] caps]) := h
  simp -implicitDefEqProofs only [go_sem, start, startE, resVs, resV, resC, allV, retK, Nat.reduceBEq, Nat.reduceAdd, Nat.reduceMul, Nat.reduceLeDiff, Nat.reduceEqDiff, Nat.reduceBNe, Nat.ble_eq, UInt8.reduceToNat, UInt32.reduceToNat, h]
  exact ⟨fun h => h.elim, fun _ => ⟨s, Sub.refl s, hq⟩⟩
theorem file_Root_nil {s : Store} {Q : List AV → Store → Prop} (hq : Q [.int .i64 0] s) : FN Go.Proofs.Tryz.prog 23 [.nilp] s Q := by
  refine FN.weak (FN.of (draw_ok mix) is_file_Root rfl (Nat.le_of_ble_eq_true rfl) ?_)
  rw [ir_file_Root, res_file_Root]
  simp -implicitDefEqProofs only [go_sem, start, startE, resVs, resV, resC, allV, retK, Nat.reduceBEq, Nat.reduceAdd, Nat.reduceMul, Nat.reduceLeDiff, Nat.reduceEqDiff, Nat.reduceBNe, Nat.ble_eq, UInt8.reduceToNat, UInt32.reduceToNat]
  refine file_is_nil ?_
  simp -implicitDefEqProofs only [go_sem, start, startE, resVs, resV, resC, allV, retK, Nat.reduceBEq, Nat.reduceAdd, Nat.reduceMul, Nat.reduceLeDiff, Nat.reduceEqDiff, Nat.reduceBNe, Nat.ble_eq, UInt8.reduceToNat, UInt32.reduceToNat]
  exact ⟨fun _ => ⟨s, Sub.refl s, hq⟩, fun h => (by cases h)⟩
theorem file_Count_nil {s : Store} {Q : List AV → Store → Prop} (hq : Q [.int .i64 0] s) : FN Go.Proofs.Tryz.prog 24 [.nilp] s Q := by
  refine FN.weak (FN.of (draw_ok mix) is_file_Count rfl (Nat.le_of_ble_eq_true rfl) ?_)
  rw [ir_file_Count, res_file_Count]
  simp -implicitDefEqProofs only [go_sem, start, startE, resVs, resV, resC, allV, retK, Nat.reduceBEq, Nat.reduceAdd, Nat.reduceMul, Nat.reduceLeDiff, Nat.reduceEqDiff, Nat.reduceBNe, Nat.ble_eq, UInt8.reduceToNat, UInt32.reduceToNat]
  refine file_is_nil ?_
  simp -implicitDefEqProofs only [go_sem, start, startE, resVs, resV, resC, allV, retK, Nat.reduceBEq, Nat.reduceAdd, Nat.reduceMul, Nat.reduceLeDiff, Nat.reduceEqDiff, Nat.reduceBNe, Nat.ble_eq, UInt8.reduceToNat, UInt32.reduceToNat]
  exact ⟨fun _ => ⟨s, Sub.refl s, hq⟩, fun h => (by cases h)⟩
abbrev TAB (t : chain_Table) : List AV := [.sl false 1 t.Places.length (flat t.Places), .int .i64 t.Root]
def NewAt (s : Store) (F B : Nat) (t : chain_Table) : Prop := ∃ tb sb, FileAt s F t.Root t.Places.length 63 [.ref tb 0, .ref sb 0] ∧ s tb = some (.cells (TAB t)) ∧ s sb = some (.cells [.ref B 0])
theorem file_New_fn {s : Store} {B : Nat} {t : chain_Table} {Q : List AV → Store → Prop} (hq : ∀ F s', Sub s s' → NewAt s' F B t → Q [.ref F 0] s') : FN Go.Proofs.Tryz.prog 16 [.ref B 0, .agg (TAB t)] s Q := by
  refine FN.weak (FN.of (draw_ok mix) is_file_New rfl (Nat.le_of_ble_eq_true rfl) ?_)
  rw [ir_file_New, res_file_New]
  simp -implicitDefEqProofs only [go_sem, start, startE, resVs, resV, resC, allV, retK, Nat.reduceBEq, Nat.reduceAdd, Nat.reduceMul, Nat.reduceLeDiff, Nat.reduceEqDiff, Nat.reduceBNe, Nat.ble_eq, UInt8.reduceToNat, UInt32.reduceToNat]
  intro sb hsb tb htb F hF
  have n1 := htb
  rw [set_none] at n1
  have n2 := hF
  rw [set_none] at n2
  have n3 := n2.2
  rw [set_none] at n3
  exact ⟨_, Sub.refl _, hq F _ ((((Sub.refl s).set hsb).set htb).set hF) ⟨tb, sb, set_same .., by rw [set_ne (Ne.symm n2.1), set_same], by rw [set_ne (Ne.symm n3.1), set_ne (Ne.symm n1.1), set_same]⟩⟩
def zeroO : api_Object := ⟨⟨0, 0, ⟨[]⟩, []⟩, false, ⟨[]⟩⟩
def file_New1 (g : SrcG) (t : chain_Table) (n : Int) : Option (api_Object × Int × Int) :=
  bnd (chain_Find t n) fun p =>
  if !p.2 then some (zeroO, 0, 0)
  else if decide (p.1 ≥ g.total) then some (zeroO, 0, 18)
  else bnd (file_parse g p.1) fun r =>
  if r.2.2.2 != 0 then some (zeroO, r.2.2.1, r.2.2.2)
  else if r.1 != n then some (zeroO, 0, 18)
  else some (r.2.1, 0, 0)
theorem file_New1_fn {s0 s : Store} {B tb sb : Nat} {g : SrcG} {t : chain_Table} {n : Int} {Q : List AV → Store → Prop} (h : SrcAt s0 s B g) (ht : g.total ≤ 2147483647) (h1 : s tb = some (.cells (TAB t))) (h2 : s sb = some (.cells [.ref B 0])) :
    ok (file_New1 g t n) (fun r => Q [OBJ r.1, .int .i64 r.2.1, .int .i64 r.2.2] s) → FN Go.Proofs.Tryz.prog 63 [.int .i64 n, .ref tb 0, .ref sb 0] s Q := by
  intro hh
  refine FN.weak (FN.of (draw_ok mix) is_file_New1 rfl (Nat.le_of_ble_eq_true rfl) ?_)
  rw [ir_file_New1, res_file_New1]
  revert hh
  rw [file_New1]
  simp -implicitDefEqProofs only [go_sem, start, startE, resVs, resV, resC, allV, retK, Nat.reduceBEq, Nat.reduceAdd, Nat.reduceMul, Nat.reduceLeDiff, Nat.reduceEqDiff, Nat.reduceBNe, Nat.ble_eq, UInt8.reduceToNat, UInt32.reduceToNat, h1]
  rintro ⟨p, hp, c1, c2⟩
  refine FE.app (chain_Find_fe hp) ?_
  refine ⟨rfl, ?_⟩
  simp -implicitDefEqProofs only [go_sem, start, startE, resVs, resV, resC, allV, retK, Nat.reduceBEq, Nat.reduceAdd, Nat.reduceMul, Nat.reduceLeDiff, Nat.reduceEqDiff, Nat.reduceBNe, Nat.ble_eq, UInt8.reduceToNat, UInt32.reduceToNat, h2]
  refine ⟨fun hc => ⟨s, Sub.refl s, c1 hc⟩, fun hc => ?_⟩
  have c2 := c2 hc
  refine Source_Total_fn h ?_
  simp -implicitDefEqProofs only [go_sem, start, startE, resVs, resV, resC, allV, retK, Nat.reduceBEq, Nat.reduceAdd, Nat.reduceMul, Nat.reduceLeDiff, Nat.reduceEqDiff, Nat.reduceBNe, Nat.ble_eq, UInt8.reduceToNat, UInt32.reduceToNat, h2]
  refine ⟨fun hd => ⟨s, Sub.refl s, c2.1 hd⟩, fun hd => ?_⟩
  refine file_parse_fn h ht (ok_mono (c2.2 hd) fun r hr => ?_)
  revert hr
  simp -implicitDefEqProofs only [go_sem, start, startE, resVs, resV, resC, allV, retK, Nat.reduceBEq, Nat.reduceAdd, Nat.reduceMul, Nat.reduceLeDiff, Nat.reduceEqDiff, Nat.reduceBNe, Nat.ble_eq, UInt8.reduceToNat, UInt32.reduceToNat]
  exact fun ⟨d1, d2⟩ => ⟨fun e => ⟨s, Sub.refl s, d1 e⟩, fun e => ⟨fun f => ⟨s, Sub.refl s, (d2 e).1 f⟩, fun f => ⟨s, Sub.refl s, (d2 e).2 f⟩⟩⟩
theorem file_Get_fn {s : Store} {F c : Nat} {root count n : Int} {caps : List AV} {Q : List AV → Store → Prop} {r : api_Object × Int × Int} (h : FileAt s F root count c caps) (hok : (fnOK Go.Proofs.Tryz.prog c = true) = True)
    (hv : argsV (fun x => match x with | .c a => a | _ => .undef) (caps.map .c) = some caps) (hc : FE Go.Proofs.Tryz.prog c ([.int .i64 n] ++ caps) s [OBJ r.1, .int .i64 r.2.1, .int .i64 r.2.2] s) (hq : Q [OBJ r.1, .int .i64 r.2.1, .int .i64 r.2.2] s) : FN Go.Proofs.Tryz.prog 18 [.ref F 0, .int .i64 n] s Q := by
  refine FN.weak (FN.of (draw_ok mix) is_file_Get rfl (Nat.le_of_ble_eq_true rfl) ?_)
  rw [ir_file_Get, res_file_Get]
  simp -implicitDefEqProofs only [go_sem, start, startE, resVs, resV, resC, allV, retK, Nat.reduceBEq, Nat.reduceAdd, Nat.reduceMul, Nat.reduceLeDiff, Nat.reduceEqDiff, Nat.reduceBNe, Nat.ble_eq, UInt8.reduceToNat, UInt32.reduceToNat]
  refine file_is_fn h ?_
  have h : s F = some (.cells [.int .i64 root, .int .i64 count, .fn c [] caps]) := h
  simp -implicitDefEqProofs only [go_sem, start, startE, resVs, resV, resC, allV, retK, Nat.reduceBEq, Nat.reduceAdd, Nat.reduceMul, Nat.reduceLeDiff, Nat.reduceEqDiff, Nat.reduceBNe, Nat.ble_eq, UInt8.reduceToNat, UInt32.reduceToNat, h, hok]
  refine ⟨fun h => h.elim, fun _ => FE.app hc ?_⟩
  refine ⟨rfl, ?_⟩
  simp -implicitDefEqProofs only [go_sem, start, startE, resVs, resV, resC, allV, retK, Nat.reduceBEq, Nat.reduceAdd, Nat.reduceMul, Nat.reduceLeDiff, Nat.reduceEqDiff, Nat.reduceBNe, Nat.ble_eq, UInt8.reduceToNat, UInt32.reduceToNat]
  exact ⟨s, Sub.refl s, hq⟩
theorem file_Get_nil {s : Store} {n : Int} {Q : List AV → Store → Prop} (hq : Q [OBJ zeroO, .int .i64 0, .int .i64 1] s) : FN Go.Proofs.Tryz.prog 18 [.nilp, .int .i64 n] s Q := by
  refine FN.weak (FN.of (draw_ok mix) is_file_Get rfl (Nat.le_of_ble_eq_true rfl) ?_)
  rw [ir_file_Get, res_file_Get]
  simp -implicitDefEqProofs only [go_sem, start, startE, resVs, resV, resC, allV, retK, Nat.reduceBEq, Nat.reduceAdd, Nat.reduceMul, Nat.reduceLeDiff, Nat.reduceEqDiff, Nat.reduceBNe, Nat.ble_eq, UInt8.reduceToNat, UInt32.reduceToNat]
  refine file_is_nil ?_
  simp -implicitDefEqProofs only [go_sem, start, startE, resVs, resV, resC, allV, retK, Nat.reduceBEq, Nat.reduceAdd, Nat.reduceMul, Nat.reduceLeDiff, Nat.reduceEqDiff, Nat.reduceBNe, Nat.ble_eq, UInt8.reduceToNat, UInt32.reduceToNat]
  exact ⟨fun _ => ⟨s, Sub.refl s, hq⟩, fun h => (by cases h)⟩
theorem file_is_zero {s : Store} {F : Nat} {Q : List AV → Store → Prop} (h : s F = some (.cells [.int .i64 0, .int .i64 0, .nilf])) (hq : Q [.bool false] s) : FN Go.Proofs.Tryz.prog 69 [.ref F 0] s Q := by
  refine FN.weak (FN.of (draw_ok mix) is_file_is rfl (Nat.le_of_ble_eq_true rfl) ?_)
  rw [ir_file_is, res_file_is]
  simp -implicitDefEqProofs only [go_sem, start, startE, resVs, resV, resC, allV, retK, Nat.reduceBEq, Nat.reduceAdd, Nat.reduceMul, Nat.reduceLeDiff, Nat.reduceEqDiff, Nat.reduceBNe, Nat.ble_eq, UInt8.reduceToNat, UInt32.reduceToNat, h]
  exact ⟨s, Sub.refl s, hq⟩
theorem file_Get_zero {s : Store} {F : Nat} {n : Int} {Q : List AV → Store → Prop} (h : s F = some (.cells [.int .i64 0, .int .i64 0, .nilf])) (hq : Q [OBJ zeroO, .int .i64 0, .int .i64 1] s) : FN Go.Proofs.Tryz.prog 18 [.ref F 0, .int .i64 n] s Q := by
  refine FN.weak (FN.of (draw_ok mix) is_file_Get rfl (Nat.le_of_ble_eq_true rfl) ?_)
  rw [ir_file_Get, res_file_Get]
  simp -implicitDefEqProofs only [go_sem, start, startE, resVs, resV, resC, allV, retK, Nat.reduceBEq, Nat.reduceAdd, Nat.reduceMul, Nat.reduceLeDiff, Nat.reduceEqDiff, Nat.reduceBNe, Nat.ble_eq, UInt8.reduceToNat, UInt32.reduceToNat]
  refine file_is_zero h ?_
  simp -implicitDefEqProofs only [go_sem, start, startE, resVs, resV, resC, allV, retK, Nat.reduceBEq, Nat.reduceAdd, Nat.reduceMul, Nat.reduceLeDiff, Nat.reduceEqDiff, Nat.reduceBNe, Nat.ble_eq, UInt8.reduceToNat, UInt32.reduceToNat]
  exact ⟨fun _ => ⟨s, Sub.refl s, hq⟩, fun h => (by cases h)⟩
theorem file_Root_zero {s : Store} {F : Nat} {Q : List AV → Store → Prop} (h : s F = some (.cells [.int .i64 0, .int .i64 0, .nilf])) (hq : Q [.int .i64 0] s) : FN Go.Proofs.Tryz.prog 23 [.ref F 0] s Q := by
  refine FN.weak (FN.of (draw_ok mix) is_file_Root rfl (Nat.le_of_ble_eq_true rfl) ?_)
  rw [ir_file_Root, res_file_Root]
  simp -implicitDefEqProofs only [go_sem, start, startE, resVs, resV, resC, allV, retK, Nat.reduceBEq, Nat.reduceAdd, Nat.reduceMul, Nat.reduceLeDiff, Nat.reduceEqDiff, Nat.reduceBNe, Nat.ble_eq, UInt8.reduceToNat, UInt32.reduceToNat]
  refine file_is_zero h ?_
  simp -implicitDefEqProofs only [go_sem, start, startE, resVs, resV, resC, allV, retK, Nat.reduceBEq, Nat.reduceAdd, Nat.reduceMul, Nat.reduceLeDiff, Nat.reduceEqDiff, Nat.reduceBNe, Nat.ble_eq, UInt8.reduceToNat, UInt32.reduceToNat]
  exact ⟨fun _ => ⟨s, Sub.refl s, hq⟩, fun h => (by cases h)⟩
theorem file_Count_zero {s : Store} {F : Nat} {Q : List AV → Store → Prop} (h : s F = some (.cells [.int .i64 0, .int .i64 0, .nilf])) (hq : Q [.int .i64 0] s) : FN Go.Proofs.Tryz.prog 24 [.ref F 0] s Q := by
  refine FN.weak (FN.of (draw_ok mix) is_file_Count rfl (Nat.le_of_ble_eq_true rfl) ?_)
  rw [ir_file_Count, res_file_Count]
  simp -implicitDefEqProofs only [go_sem, start, startE, resVs, resV, resC, allV, retK, Nat.reduceBEq, Nat.reduceAdd, Nat.reduceMul, Nat.reduceLeDiff, Nat.reduceEqDiff, Nat.reduceBNe, Nat.ble_eq, UInt8.reduceToNat, UInt32.reduceToNat]
  refine file_is_zero h ?_
  simp -implicitDefEqProofs only [go_sem, start, startE, resVs, resV, resC, allV, retK, Nat.reduceBEq, Nat.reduceAdd, Nat.reduceMul, Nat.reduceLeDiff, Nat.reduceEqDiff, Nat.reduceBNe, Nat.ble_eq, UInt8.reduceToNat, UInt32.reduceToNat]
  exact ⟨fun _ => ⟨s, Sub.refl s, hq⟩, fun h => (by cases h)⟩
end Go.AB
end

section
set_option maxRecDepth 4000
namespace Go.AB
open Go
attribute [-go_sem] xwp_cons xwpK_eq xalt_cons xalt_nil
def ref11_Compare : Nat → api_Value → api_Value → Option (Int)
  | 0, _, _ => none
  | fuel + 1, a_0, b_1 =>
    if (decide (a_0.Kind < b_1.Kind)) || ((a_0.Kind == b_1.Kind) && ((decide (a_0.N < b_1.N)) || ((a_0.N == b_1.N) && (Op.bytesLess a_0.S.b b_1.S.b)))) then
      some (-1)
    else
      if ((a_0.Kind != b_1.Kind) || (a_0.N != b_1.N)) || (!(a_0.S.b == b_1.S.b)) then
        some 1
      else
        jnS (
          bndS (
            iter (fun (k4 : Int) =>
              if (decide (k4 < (a_0.L.length : Int))) && (decide (k4 < (b_1.L.length : Int))) then
                need (0 ≤ k4 ∧ k4 < a_0.L.length) <|
                need (0 ≤ k4 ∧ k4 < b_1.L.length) <|
                bnd (ref11_Compare fuel (ix a_0.L k4) (ix b_1.L k4)) fun r8 =>
                if r8 != 0 then
                  some (.inr (.inr r8))
                else
                  some (.inl (w64 (k4 + 1)))
              else
                some (.inr (.inl ()))) 0) (fun (_ : Unit) =>
            some (.inl ()))
          (fun (t7 : Int) => some (.inr t7))) (fun (_ : Unit) =>
          if decide ((a_0.L.length : Int) < (b_1.L.length : Int)) then
            some (-1)
          else
            if decide ((a_0.L.length : Int) > (b_1.L.length : Int)) then
              some 1
            else
              some 0)
        (fun (t3 : Int) => some t3)
def ir_ref11_Compare : IC :=
 (.seq (.reg none [i1 2 (.boxL 4 (.t 0)),
 i1 3 (.boxL 4 (.t 1)),
 i1 4 (.mov false (.c (.int .i64 0)))] [2, 3])
 (.seq (.block 0 (.seq (.reg none [i1 8 (.fieldAddr 0 (.t 2)),
 i1 9 (.load 1 false (.t 8)),
 i1 10 (.fieldAddr 0 (.t 3)),
 i1 11 (.load 1 false (.t 10)),
 i1 12 (.bin .lss (.t 9) (.t 11)),
 mv 13 12,
 i1g 14 13 false (.fieldAddr 0 (.t 2)),
 i1g 15 13 false (.load 1 false (.t 14)),
 i1g 16 13 false (.fieldAddr 0 (.t 3)),
 i1g 17 13 false (.load 1 false (.t 16)),
 i1g 18 13 false (.bin .eql (.t 15) (.t 17)),
 mvg 19 18 13 false,
 i1g 20 19 true (.fieldAddr 1 (.t 2)),
 i1g 21 19 true (.load 1 false (.t 20)),
 i1g 22 19 true (.fieldAddr 1 (.t 3)),
 i1g 23 19 true (.load 1 false (.t 22)),
 i1g 24 19 true (.bin .lss (.t 21) (.t 23)),
 mvg 25 24 19 true,
 i1g 26 25 false (.fieldAddr 1 (.t 2)),
 i1g 27 25 false (.load 1 false (.t 26)),
 i1g 28 25 false (.fieldAddr 1 (.t 3)),
 i1g 29 25 false (.load 1 false (.t 28)),
 i1g 30 25 false (.bin .eql (.t 27) (.t 29)),
 mvg 31 30 25 false,
 i1g 32 31 true (.fieldAddr 2 (.t 2)),
 i1g 33 31 true (.load 1 false (.t 32)),
 i1g 34 31 true (.fieldAddr 2 (.t 3)),
 i1g 35 31 true (.load 1 false (.t 34)),
 i1g 36 31 true (.bin .lss (.t 33) (.t 35)),
 i1g 37 25 false (.pick (.t 31) (.t 36) (.c (.bool false))),
 i1g 38 19 true (.pick (.t 25) (.c (.bool true)) (.t 37)),
 i1g 39 13 false (.pick (.t 19) (.t 38) (.c (.bool false))),
 i1 40 (.pick (.t 13) (.c (.bool true)) (.t 39)),
 mv 7 40] [2, 3, 7])
 (.cond (.t 7) (.seq (.reg none [i1 4 (.mov false (.c (.int .i64 (-1))))] [4])
 .ret)
 (.seq (.reg none [i1 42 (.fieldAddr 0 (.t 2)),
 i1 43 (.load 1 false (.t 42)),
 i1 44 (.fieldAddr 0 (.t 3)),
 i1 45 (.load 1 false (.t 44)),
 i1 46 (.bin .neq (.t 43) (.t 45)),
 mv 47 46,
 i1g 48 47 false (.fieldAddr 1 (.t 2)),
 i1g 49 47 false (.load 1 false (.t 48)),
 i1g 50 47 false (.fieldAddr 1 (.t 3)),
 i1g 51 47 false (.load 1 false (.t 50)),
 i1g 52 47 false (.bin .neq (.t 49) (.t 51)),
 i1 53 (.pick (.t 47) (.c (.bool true)) (.t 52)),
 mv 54 53,
 i1g 55 54 false (.fieldAddr 2 (.t 2)),
 i1g 56 54 false (.load 1 false (.t 55)),
 i1g 57 54 false (.fieldAddr 2 (.t 3)),
 i1g 58 54 false (.load 1 false (.t 57)),
 i1g 59 54 false (.bin .neq (.t 56) (.t 58)),
 i1 60 (.pick (.t 54) (.c (.bool true)) (.t 59)),
 mv 41 60] [2, 3, 41])
 (.cond (.t 41) (.seq (.reg none [i1 4 (.mov false (.c (.int .i64 1)))] [4])
 .ret)
 .skip)))))
 (.join [(2, false), (3, false)] (.seq (.reg none [i1 5 (.mov false (.c (.int .i64 0)))] [2, 3, 5])
 (.block 1 (.loop [(2, false), (3, false), (5, false)] (.seq (.seq (.reg none [mv 61 5,
 i1 62 (.fieldAddr 3 (.t 2)),
 i1 63 (.load 1 false (.t 62)),
 i1 64 (.len 0 (.t 63)),
 i1 65 (.bin .lss (.t 61) (.t 64)),
 mv 66 65,
 mvg 67 5 66 true,
 i1g 68 66 true (.fieldAddr 3 (.t 3)),
 i1g 69 66 true (.load 1 false (.t 68)),
 i1g 70 66 true (.len 0 (.t 69)),
 i1g 71 66 true (.bin .lss (.t 67) (.t 70)),
 i1 72 (.pick (.t 66) (.t 71) (.c (.bool false)))] [2, 3, 5, 72])
 (.cond (.t 72) .skip
 (.exit 1)))
 (.seq (.block 2 (.seq (.reg (some 12) [i1 75 (.fieldAddr 3 (.t 2)),
 i1 76 (.load 1 false (.t 75)),
 mv 77 5,
 i1 78 (.indexAddr [.int .i64 0, .int .i64 0, .str [], .sl false 4 0 []] (.t 76) (.t 77)),
 i1 79 (.load 4 true (.t 78)),
 i1 80 (.fieldAddr 3 (.t 3)),
 i1 81 (.load 1 false (.t 80)),
 mv 82 5,
 i1 83 (.indexAddr [.int .i64 0, .int .i64 0, .str [], .sl false 4 0 []] (.t 81) (.t 82)),
 i1 84 (.load 4 true (.t 83)),
 i1 85 (.call 88 [(.t 79), (.t 84)]),
 mv 6 85] [2, 3, 5, 6])
 (.seq (.reg none [mv 86 6,
 i1 87 (.bin .neq (.t 86) (.c (.int .i64 0)))] [2, 3, 5, 6, 87])
 (.cond (.t 87) (.seq (.reg none [mv 88 6,
 mv 4 88] [4])
 .ret)
 .skip))))
 (.reg none [mv 73 5,
 i1 74 (.bin .add (.t 73) (.c (.int .i64 1))),
 mv 5 74] [2, 3, 5]))))))
 (.seq (.seq (.reg none [i1 89 (.fieldAddr 3 (.t 2)),
 i1 90 (.load 1 false (.t 89)),
 i1 91 (.len 0 (.t 90)),
 i1 92 (.fieldAddr 3 (.t 3)),
 i1 93 (.load 1 false (.t 92)),
 i1 94 (.len 0 (.t 93)),
 i1 95 (.bin .lss (.t 91) (.t 94))] [2, 3, 95])
 (.cond (.t 95) (.seq (.reg none [i1 4 (.mov false (.c (.int .i64 (-1))))] [4])
 .ret)
 .skip))
 (.seq (.seq (.reg none [i1 96 (.fieldAddr 3 (.t 2)),
 i1 97 (.load 1 false (.t 96)),
 i1 98 (.len 0 (.t 97)),
 i1 99 (.fieldAddr 3 (.t 3)),
 i1 100 (.load 1 false (.t 99)),
 i1 101 (.len 0 (.t 100)),
 i1 102 (.bin .gtr (.t 98) (.t 101))] [102])
 (.cond (.t 102) (.seq (.reg none [i1 4 (.mov false (.c (.int .i64 1)))] [4])
 .ret)
 .skip))
 (.seq (.reg none [i1 4 (.mov false (.c (.int .i64 0)))] [4])
 .ret))))))
def res_ref11_Compare : List IRes := [⟨4, true, none⟩]
theorem is_ref11_Compare : fnIs Go.Proofs.Tryz.prog 88 103 res_ref11_Compare ir_ref11_Compare = true := by kernel_rfl
theorem ref11_Compare_fn {fuel : Nat} : ∀ {a_0 : api_Value} {b_1 : api_Value} {s : Store} {Q : List AV → Store → Prop} , ok (ref11_Compare fuel a_0 b_1) (fun r => Q [.int .i64 r] s) → FN Go.Proofs.Tryz.prog 88 [.agg [.int .i64 a_0.Kind, .int .i64 a_0.N, .str a_0.S.b, .sl false 4 a_0.L.length (flat a_0.L)], .agg [.int .i64 b_1.Kind, .int .i64 b_1.N, .str b_1.S.b, .sl false 4 b_1.L.length (flat b_1.L)]] s Q := by
  induction fuel with
  | zero => intros; rename_i h; rw [ref11_Compare] at h; exact absurd h (by rw [ok_none]; exact fun h => h)
  | succ fuel ih =>
  have ihfe : ∀ {a_0 : api_Value} {b_1 : api_Value} {s : Store} {r : Int} , ref11_Compare fuel a_0 b_1 = some r → FE Go.Proofs.Tryz.prog 88 [.agg [.int .i64 a_0.Kind, .int .i64 a_0.N, .str a_0.S.b, .sl false 4 a_0.L.length (flat a_0.L)], .agg [.int .i64 b_1.Kind, .int .i64 b_1.N, .str b_1.S.b, .sl false 4 b_1.L.length (flat b_1.L)]] s [.int .i64 r] s := fun  h => ih  ⟨_, h, rfl, rfl⟩
  intro a_0 b_1  s Q 
  intro h
  refine FN.of (draw_ok mix) is_ref11_Compare rfl (Nat.le_of_ble_eq_true rfl) ?_
  revert h
  rw [ir_ref11_Compare, res_ref11_Compare, ref11_Compare]
  repeat' (first
    | with_reducible exact tt_to
    | with_reducible refine and_to ?_ ?_
    | with_reducible exact im_and
    | with_reducible refine im_to ?_
    | with_reducible refine call_to (fun _ (h : ref11_Compare fuel (ix a_0.L k4) (ix b_1.L k4) = some _) => ihfe h) (fun r8 => ?_)
    | with_reducible refine call_to_q (fun _ (h : ref11_Compare fuel (ix a_0.L k4) (ix b_1.L k4) = some _) => ihfe h) (fun _ => rfl) (fun r8 => ?_)
    | with_reducible refine call_to (fun _ (h : ref11_Compare fuel (ix a_0.L k4) (ix b_1.L k4) = some _) => (by refine FE_cast ?_ (ihfe h); simp -implicitDefEqProofs only [go_sem, start, startE, resVs, resV, resC, allV, retK, Nat.reduceBEq, Nat.reduceAdd, Nat.reduceMul, Nat.reduceLeDiff, Nat.reduceEqDiff, Nat.reduceBNe, Nat.ble_eq, UInt8.reduceToNat, UInt32.reduceToNat])) (fun r8 => ?_)
    | with_reducible refine call_to_q (fun _ (h : ref11_Compare fuel (ix a_0.L k4) (ix b_1.L k4) = some _) => (by refine FE_cast ?_ (ihfe h); simp -implicitDefEqProofs only [go_sem, start, startE, resVs, resV, resC, allV, retK, Nat.reduceBEq, Nat.reduceAdd, Nat.reduceMul, Nat.reduceLeDiff, Nat.reduceEqDiff, Nat.reduceBNe, Nat.ble_eq, UInt8.reduceToNat, UInt32.reduceToNat])) (fun _ => rfl) (fun r8 => ?_)
    | with_reducible refine call_to (fun _ (h : ref11_Compare fuel (ix a_0.L k4) (ix b_1.L k4) = some _) => (by have hx := ihfe (s := s) h; simp -implicitDefEqProofs only [go_sem, start, startE, resVs, resV, resC, allV, retK, Nat.reduceBEq, Nat.reduceAdd, Nat.reduceMul, Nat.reduceLeDiff, Nat.reduceEqDiff, Nat.reduceBNe, Nat.ble_eq, UInt8.reduceToNat, UInt32.reduceToNat] at hx; exact hx)) (fun r8 => ?_)
    | ((with_reducible refine iter_to (fun (k4 : Int) => ⟨[(2, .loc [.int .i64 a_0.Kind, .int .i64 a_0.N, .str a_0.S.b, .sl false 4 a_0.L.length (flat a_0.L)]), (3, .loc [.int .i64 b_1.Kind, .int .i64 b_1.N, .str b_1.S.b, .sl false 4 b_1.L.length (flat b_1.L)]), (5, .int .i64 k4)], [], s⟩) ?_ ?_); (first | exact rfl | simp -implicitDefEqProofs only [go_sem, start, startE, resVs, resV, resC, allV, retK, Nat.reduceBEq, Nat.reduceAdd, Nat.reduceMul, Nat.reduceLeDiff, Nat.reduceEqDiff, Nat.reduceBNe, Nat.ble_eq, UInt8.reduceToNat, UInt32.reduceToNat]); rintro J k4)
    | ((with_reducible refine join_toS (fun (_ : Unit) => ⟨[(2, .loc [.int .i64 a_0.Kind, .int .i64 a_0.N, .str a_0.S.b, .sl false 4 a_0.L.length (flat a_0.L)]), (3, .loc [.int .i64 b_1.Kind, .int .i64 b_1.N, .str b_1.S.b, .sl false 4 b_1.L.length (flat b_1.L)])], [], s⟩) (fun J => ?_) ?_); rotate_left; rintro _)
    | simp -implicitDefEqProofs only [go_sem, start, startE, resVs, resV, resC, allV, retK, Nat.reduceBEq, Nat.reduceAdd, Nat.reduceMul, Nat.reduceLeDiff, Nat.reduceEqDiff, Nat.reduceBNe, Nat.ble_eq, UInt8.reduceToNat, UInt32.reduceToNat])
theorem ref11_Compare_fe {fuel : Nat} {a_0 b_1} {s : Store} {r : Int}  (h : ref11_Compare fuel a_0 b_1 = some r) : FE Go.Proofs.Tryz.prog 88 [.agg [.int .i64 a_0.Kind, .int .i64 a_0.N, .str a_0.S.b, .sl false 4 a_0.L.length (flat a_0.L)], .agg [.int .i64 b_1.Kind, .int .i64 b_1.N, .str b_1.S.b, .sl false 4 b_1.L.length (flat b_1.L)]] s [.int .i64 r] s := ref11_Compare_fn  ⟨r, h, rfl, rfl⟩
def ref11_Same (a_0 : api_Value) (b_1 : api_Value) : Option (Bool) :=
  bnd (ref11_Compare bigN a_0 b_1) fun r1 =>
  some (r1 == 0)
def ir_ref11_Same : IC :=
 (.seq (.reg none [i1 2 (.boxL 4 (.t 0)),
 i1 3 (.boxL 4 (.t 1)),
 i1 4 (.mov false (.c (.bool false)))] [2, 3])
 (.seq (.reg none [i1 5 (.load 4 true (.t 2)),
 i1 6 (.load 4 true (.t 3)),
 i1 7 (.call 88 [(.t 5), (.t 6)]),
 i1 8 (.bin .eql (.t 7) (.c (.int .i64 0))),
 mv 4 8] [4])
 .ret))
def res_ref11_Same : List IRes := [⟨4, true, none⟩]
theorem is_ref11_Same : fnIs Go.Proofs.Tryz.prog 40 9 res_ref11_Same ir_ref11_Same = true := by kernel_rfl
theorem ref11_Same_fn {a_0 b_1} {s : Store} {Q : List AV → Store → Prop}  : ok (ref11_Same a_0 b_1) (fun r => Q [.bool r] s) → FN Go.Proofs.Tryz.prog 40 [.agg [.int .i64 a_0.Kind, .int .i64 a_0.N, .str a_0.S.b, .sl false 4 a_0.L.length (flat a_0.L)], .agg [.int .i64 b_1.Kind, .int .i64 b_1.N, .str b_1.S.b, .sl false 4 b_1.L.length (flat b_1.L)]] s Q := by
  intro h
  refine FN.of (draw_ok mix) is_ref11_Same rfl (Nat.le_of_ble_eq_true rfl) ?_
  revert h
  rw [ir_ref11_Same, res_ref11_Same, ref11_Same]
  repeat' (first
    | with_reducible exact tt_to
    | with_reducible refine and_to ?_ ?_
    | with_reducible exact im_and
    | with_reducible refine im_to ?_
    | with_reducible refine call_to (fun _ (h : ref11_Compare bigN a_0 b_1 = some _) => ref11_Compare_fe h) (fun r1 => ?_)
    | with_reducible refine call_to_q (fun _ (h : ref11_Compare bigN a_0 b_1 = some _) => ref11_Compare_fe h) (fun _ => rfl) (fun r1 => ?_)
    | with_reducible refine call_to (fun _ (h : ref11_Compare bigN a_0 b_1 = some _) => (by refine FE_cast ?_ (ref11_Compare_fe h); simp -implicitDefEqProofs only [go_sem, start, startE, resVs, resV, resC, allV, retK, Nat.reduceBEq, Nat.reduceAdd, Nat.reduceMul, Nat.reduceLeDiff, Nat.reduceEqDiff, Nat.reduceBNe, Nat.ble_eq, UInt8.reduceToNat, UInt32.reduceToNat])) (fun r1 => ?_)
    | with_reducible refine call_to_q (fun _ (h : ref11_Compare bigN a_0 b_1 = some _) => (by refine FE_cast ?_ (ref11_Compare_fe h); simp -implicitDefEqProofs only [go_sem, start, startE, resVs, resV, resC, allV, retK, Nat.reduceBEq, Nat.reduceAdd, Nat.reduceMul, Nat.reduceLeDiff, Nat.reduceEqDiff, Nat.reduceBNe, Nat.ble_eq, UInt8.reduceToNat, UInt32.reduceToNat])) (fun _ => rfl) (fun r1 => ?_)
    | simp -implicitDefEqProofs only [go_sem, start, startE, resVs, resV, resC, allV, retK, Nat.reduceBEq, Nat.reduceAdd, Nat.reduceMul, Nat.reduceLeDiff, Nat.reduceEqDiff, Nat.reduceBNe, Nat.ble_eq, UInt8.reduceToNat, UInt32.reduceToNat])
theorem ref11_Same_fe {a_0 b_1} {s : Store} {r : Bool}  (h : ref11_Same a_0 b_1 = some r) : FE Go.Proofs.Tryz.prog 40 [.agg [.int .i64 a_0.Kind, .int .i64 a_0.N, .str a_0.S.b, .sl false 4 a_0.L.length (flat a_0.L)], .agg [.int .i64 b_1.Kind, .int .i64 b_1.N, .str b_1.S.b, .sl false 4 b_1.L.length (flat b_1.L)]] s [.bool r] s := ref11_Same_fn  ⟨r, h, rfl, rfl⟩
def ref14_Same (a_0 : api_Object) (b_1 : api_Object) : Option (Bool) :=
  bnd (ref11_Same a_0.V b_1.V) fun r1 =>
  some ((r1 && ((a_0.Stream == b_1.Stream) != false)) && (a_0.Data.b == b_1.Data.b))
def ir_ref14_Same : IC :=
 (.seq (.reg none [i1 2 (.boxL 6 (.t 0)),
 i1 3 (.boxL 6 (.t 1)),
 i1 4 (.mov false (.c (.bool false)))] [2, 3])
 (.seq (.reg none [i1 5 (.fieldAddr 0 (.t 2)),
 i1 6 (.load 4 true (.t 5)),
 i1 7 (.fieldAddr 0 (.t 3)),
 i1 8 (.load 4 true (.t 7)),
 i1 9 (.call 40 [(.t 6), (.t 8)]),
 mv 10 9,
 i1g 11 10 true (.fieldAddr 4 (.t 2)),
 i1g 12 10 true (.load 1 false (.t 11)),
 i1g 13 10 true (.fieldAddr 4 (.t 3)),
 i1g 14 10 true (.load 1 false (.t 13)),
 i1g 15 10 true (.eqB false (.t 12) (.t 14)),
 i1 16 (.pick (.t 10) (.t 15) (.c (.bool false))),
 mv 17 16,
 i1g 18 17 true (.fieldAddr 5 (.t 2)),
 i1g 19 17 true (.load 1 false (.t 18)),
 i1g 20 17 true (.fieldAddr 5 (.t 3)),
 i1g 21 17 true (.load 1 false (.t 20)),
 i1g 22 17 true (.bin .eql (.t 19) (.t 21)),
 i1 23 (.pick (.t 17) (.t 22) (.c (.bool false))),
 mv 4 23] [4])
 .ret))
def res_ref14_Same : List IRes := [⟨4, true, none⟩]
theorem is_ref14_Same : fnIs Go.Proofs.Tryz.prog 22 24 res_ref14_Same ir_ref14_Same = true := by kernel_rfl
theorem ref14_Same_fn {a_0 b_1} {s : Store} {Q : List AV → Store → Prop}  : ok (ref14_Same a_0 b_1) (fun r => Q [.bool r] s) → FN Go.Proofs.Tryz.prog 22 [.agg [.int .i64 a_0.V.Kind, .int .i64 a_0.V.N, .str a_0.V.S.b, .sl false 4 a_0.V.L.length (flat a_0.V.L), .bool a_0.Stream, .str a_0.Data.b], .agg [.int .i64 b_1.V.Kind, .int .i64 b_1.V.N, .str b_1.V.S.b, .sl false 4 b_1.V.L.length (flat b_1.V.L), .bool b_1.Stream, .str b_1.Data.b]] s Q := by
  intro h
  refine FN.of (draw_ok mix) is_ref14_Same rfl (Nat.le_of_ble_eq_true rfl) ?_
  revert h
  rw [ir_ref14_Same, res_ref14_Same, ref14_Same]
  repeat' (first
    | with_reducible exact tt_to
    | with_reducible refine and_to ?_ ?_
    | with_reducible exact im_and
    | with_reducible refine im_to ?_
    | with_reducible refine call_to (fun _ (h : ref11_Same a_0.V b_1.V = some _) => ref11_Same_fe h) (fun r1 => ?_)
    | with_reducible refine call_to_q (fun _ (h : ref11_Same a_0.V b_1.V = some _) => ref11_Same_fe h) (fun _ => rfl) (fun r1 => ?_)
    | with_reducible refine call_to (fun _ (h : ref11_Same a_0.V b_1.V = some _) => (by refine FE_cast ?_ (ref11_Same_fe h); simp -implicitDefEqProofs only [go_sem, start, startE, resVs, resV, resC, allV, retK, Nat.reduceBEq, Nat.reduceAdd, Nat.reduceMul, Nat.reduceLeDiff, Nat.reduceEqDiff, Nat.reduceBNe, Nat.ble_eq, UInt8.reduceToNat, UInt32.reduceToNat])) (fun r1 => ?_)
    | with_reducible refine call_to_q (fun _ (h : ref11_Same a_0.V b_1.V = some _) => (by refine FE_cast ?_ (ref11_Same_fe h); simp -implicitDefEqProofs only [go_sem, start, startE, resVs, resV, resC, allV, retK, Nat.reduceBEq, Nat.reduceAdd, Nat.reduceMul, Nat.reduceLeDiff, Nat.reduceEqDiff, Nat.reduceBNe, Nat.ble_eq, UInt8.reduceToNat, UInt32.reduceToNat])) (fun _ => rfl) (fun r1 => ?_)
    | simp -implicitDefEqProofs only [go_sem, start, startE, resVs, resV, resC, allV, retK, Nat.reduceBEq, Nat.reduceAdd, Nat.reduceMul, Nat.reduceLeDiff, Nat.reduceEqDiff, Nat.reduceBNe, Nat.ble_eq, UInt8.reduceToNat, UInt32.reduceToNat])
theorem ref14_Same_fe {a_0 b_1} {s : Store} {r : Bool}  (h : ref14_Same a_0 b_1 = some r) : FE Go.Proofs.Tryz.prog 22 [.agg [.int .i64 a_0.V.Kind, .int .i64 a_0.V.N, .str a_0.V.S.b, .sl false 4 a_0.V.L.length (flat a_0.V.L), .bool a_0.Stream, .str a_0.Data.b], .agg [.int .i64 b_1.V.Kind, .int .i64 b_1.V.N, .str b_1.V.S.b, .sl false 4 b_1.V.L.length (flat b_1.V.L), .bool b_1.Stream, .str b_1.Data.b]] s [.bool r] s := ref14_Same_fn  ⟨r, h, rfl, rfl⟩
end Go.AB
end

section
set_option maxRecDepth 4000
namespace Go.AB
open Go
attribute [-go_sem] Nat.add_zero ge_0 part_zero
structure api_Doc where
  Objects : (List api_Object)
  Root : Int
instance : Enc api_Doc := ⟨2, fun x => [.sl false 6 x.Objects.length (flat x.Objects), .int .i64 x.Root], (api_Doc.mk [] 0), by decide, fun _ => rfl, fun _ => rfl⟩
@[go_sem] theorem cells_api_Doc (x : api_Doc) : Enc.cells x = [.sl false 6 x.Objects.length (flat x.Objects), .int .i64 x.Root] := rfl
@[go_sem] theorem w_api_Doc : Enc.w api_Doc = 2 := rfl
@[go_sem] theorem pad_api_Doc (l : List api_Doc) (i : Int) : pad [.sl false 6 0 [], .int .i64 0] (views (AB.sub (flat l) (i.toNat * 2) 2)) = [.sl false 6 ((ix l i).Objects).length (flat ((ix l i).Objects)), .int .i64 ((ix l i).Root)] := by
  rw [← cells_api_Doc]; exact flat_pad _ 2 l i (by rw [cells_api_Doc]; rfl) rfl
@[go_sem] theorem mk_api_Doc (x : api_Doc) : api_Doc.mk x.Objects x.Root = x := by cases x; rfl
def ir_file_All : IC :=
 (.seq (.reg none [i1 2 (.mov true (.c (.sl true 6 0 []))),
 i1 3 (.mov false (.c (.int .i64 0))),
 i1 4 (.mov false (.c (.int .i64 0)))] [0])
 (.seq (.seq (.reg none [mv 10 0,
 i1 11 (.call 69 [(.t 10)]),
 i1 12 (.un .not (.t 11))] [0, 12])
 (.cond (.t 12) (.seq (.reg none [i1 2 (.mov true (.c (.sl true 6 0 []))),
 i1 3 (.mov false (.c (.int .i64 0))),
 i1 4 (.mov false (.c (.int .i64 1)))] [2, 3, 4])
 .ret)
 .skip))
 (.seq (.reg none [i1 5 (.mov true (.c (.sl true 6 0 [])))] [0, 5])
 (.seq (.seq (.reg none [i1 6 (.mov false (.c (.int .i64 1)))] [0, 5, 6])
 (.block 0 (.loop [(0, false), (5, false), (6, false)] (.seq (.seq (.reg none [mv 13 6,
 mv 14 0,
 i1 15 (.nilCheck (.t 14)),
 i1 16 (.fieldAddr 1 (.t 15)),
 i1 17 (.load 1 false (.t 16)),
 i1 18 (.bin .leq (.t 13) (.t 17))] [0, 5, 6, 18])
 (.cond (.t 18) .skip
 (.exit 0)))
 (.seq (.block 1 (.seq (.reg none [mv 22 0,
 mv 23 6,
 i1 24 (.call 18 [(.t 22), (.t 23)]),
 mv 21 24,
 i1 25 (.extract (.t 21) 0),
 i1 26 (.extract (.t 21) 1),
 i1 27 (.extract (.t 21) 2),
 i1 7 (.allocL [.int .i64 0, .int .i64 0, .str [], .sl true 4 0 [], .bool false, .str []]),
 i0 (.store 6 (.t 7) (.t 25)),
 mv 8 26,
 mv 9 27] [0, 5, 6, 7, 8, 9])
 (.seq (.seq (.reg none [mv 28 9,
 i1 29 (.bin .neq (.t 28) (.c (.int .i64 0)))] [0, 5, 6, 7, 8, 9, 29])
 (.cond (.t 29) (.seq (.reg none [mv 30 8,
 mv 31 9,
 i1 2 (.mov true (.c (.sl true 6 0 []))),
 mv 3 30,
 mv 4 31] [2, 3, 4])
 .ret)
 .skip))
 (.reg none [mt 32 5,
 i1 33 (.load 6 true (.t 7)),
 i1 34 (.buildSl 6 1 [.int .i64 0, .int .i64 0, .str [], .sl true 4 0 [], .bool false, .str []] [(0, 6, (.t 33))]),
 i1 35 (.append 6 80 (.t 32) (.t 34)),
 mt 5 35] [0, 5, 6]))))
 (.reg none [mv 19 6,
 i1 20 (.bin .add (.t 19) (.c (.int .i64 1))),
 mv 6 20] [0, 5, 6]))))))
 (.seq (.reg none [mt 36 5,
 mt 2 36,
 i1 3 (.mov false (.c (.int .i64 0))),
 i1 4 (.mov false (.c (.int .i64 0)))] [2, 3, 4])
 .ret)))))
def res_file_All : List IRes := [⟨2, true, none⟩, ⟨3, true, none⟩, ⟨4, true, none⟩]
theorem is_file_All : fnIs Go.Proofs.Tryz.prog 27 37 res_file_All ir_file_All = true := by kernel_rfl
def ir_file_Of : IC :=
 (.seq (.reg none [i1 1 (.boxS 2 (.t 0)),
 i1 2 (.mov false (.c (.nilp)))] [1])
 (.seq (.reg none [i1 3 (.fieldAddr 1 (.t 1)),
 i1 4 (.load 1 false (.t 3)),
 i1 5 (.fieldAddr 0 (.t 1)),
 i1 6 (.load 1 false (.t 5)),
 i1 7 (.len 0 (.t 6)),
 i1 8 (.makeFn 76 [] [(.t 1)]),
 i1 9 (.build [.int .i64 0, .int .i64 0, .nilf] [(0, 1, (.t 4)), (1, 1, (.t 7)), (2, 1, (.t 8))]),
 i1 10 (.boxS 3 (.t 9)),
 mv 2 10] [2])
 .ret))
def res_file_Of : List IRes := [⟨2, true, none⟩]
theorem is_file_Of : fnIs Go.Proofs.Tryz.prog 31 11 res_file_Of ir_file_Of = true := by kernel_rfl
def ir_file_Of1 : IC :=
 (.seq (.reg none [i1 3 (.allocL [.int .i64 0, .int .i64 0, .str [], .sl true 4 0 [], .bool false, .str []]),
 i1 4 (.mov false (.c (.int .i64 0))),
 i1 5 (.mov false (.c (.int .i64 0)))] [0, 1, 3])
 (.seq (.seq (.reg none [mv 6 0,
 i1 7 (.bin .lss (.t 6) (.c (.int .i64 1))),
 mv 8 7,
 mvg 9 0 8 false,
 i1g 10 8 false (.fieldAddr 0 (.t 1)),
 i1g 11 8 false (.load 1 false (.t 10)),
 i1g 12 8 false (.len 0 (.t 11)),
 i1g 13 8 false (.bin .gtr (.t 9) (.t 12)),
 i1 14 (.pick (.t 8) (.c (.bool true)) (.t 13))] [0, 1, 3, 14])
 (.cond (.t 14) (.seq (.reg none [i1 15 (.build [.int .i64 0, .int .i64 0, .str [], .sl true 4 0 [], .bool false, .str []] []),
 i0 (.store 6 (.t 3) (.t 15)),
 i1 4 (.mov false (.c (.int .i64 0))),
 i1 5 (.mov false (.c (.int .i64 0)))] [3, 4, 5])
 .ret)
 .skip))
 (.seq (.reg none [i1 16 (.fieldAddr 0 (.t 1)),
 i1 17 (.load 1 false (.t 16)),
 mv 18 0,
 i1 19 (.bin .sub (.t 18) (.c (.int .i64 1))),
 i1 20 (.indexAddr [.int .i64 0, .int .i64 0, .str [], .sl false 4 0 [], .bool false, .str []] (.t 17) (.t 19)),
 i1 21 (.load 6 true (.t 20)),
 i0 (.store 6 (.t 3) (.t 21)),
 i1 4 (.mov false (.c (.int .i64 0))),
 i1 5 (.mov false (.c (.int .i64 0)))] [3, 4, 5])
 .ret)))
def res_file_Of1 : List IRes := [⟨3, false, some (6, true)⟩, ⟨4, true, none⟩, ⟨5, true, none⟩]
theorem is_file_Of1 : fnIs Go.Proofs.Tryz.prog 76 22 res_file_Of1 ir_file_Of1 = true := by kernel_rfl
def ir_law19_none : IC :=
 (.seq (.reg none [i1 4 (.mov false (.c (.bool false)))] [0, 1])
 (.seq (.reg none [mv 12 0,
 mv 13 1,
 i1 14 (.call 18 [(.t 12), (.t 13)]),
 i1 11 (.movT (.t 14)),
 i1 15 (.extract (.t 11) 0),
 i1 16 (.extract (.t 11) 1),
 i1 17 (.extract (.t 11) 2),
 i1 5 (.allocL [.int .i64 0, .int .i64 0, .str [], .sl true 4 0 [], .bool false, .str []]),
 i0 (.store 6 (.t 5) (.t 15)),
 mv 6 16,
 mv 7 17] [0, 5, 6, 7])
 (.seq (.reg none [mv 19 0,
 i1 20 (.call 27 [(.t 19)]),
 i1 18 (.movT (.t 20)),
 i1 21 (.extract (.t 18) 0),
 i1 22 (.extract (.t 18) 1),
 i1 23 (.extract (.t 18) 2),
 mt 8 21,
 mv 9 22,
 mv 10 23] [0, 5, 6, 7, 8, 9, 10])
 (.seq (.reg (some 32) [i1 24 (.load 6 true (.t 5)),
 i1 25 (.build [.int .i64 0, .int .i64 0, .str [], .sl false 4 0 [], .bool false, .str []] []),
 i1 26 (.call 22 [(.t 24), (.t 25)]),
 mv 27 26,
 mvg 28 6 27 true,
 i1g 29 27 true (.bin .eql (.t 28) (.c (.int .i64 0))),
 i1 30 (.pick (.t 27) (.t 29) (.c (.bool false))),
 mv 31 30,
 mvg 32 7 31 true,
 i1g 33 31 true (.bin .eql (.t 32) (.c (.int .i64 1))),
 i1 34 (.pick (.t 31) (.t 33) (.c (.bool false))),
 mv 35 34,
 mvg 36 8 35 true,
 i1g 37 35 true (.len 0 (.t 36)),
 i1g 38 35 true (.bin .eql (.t 37) (.c (.int .i64 0))),
 i1 39 (.pick (.t 35) (.t 38) (.c (.bool false))),
 mv 40 39,
 mvg 41 9 40 true,
 i1g 42 40 true (.bin .eql (.t 41) (.c (.int .i64 0))),
 i1 43 (.pick (.t 40) (.t 42) (.c (.bool false))),
 mv 44 43,
 mvg 45 10 44 true,
 i1g 46 44 true (.bin .eql (.t 45) (.c (.int .i64 1))),
 i1 47 (.pick (.t 44) (.t 46) (.c (.bool false))),
 mv 48 47,
 mvg 49 0 48 true,
 i1g 50 48 true (.call 23 [(.t 49)]),
 i1g 51 48 true (.bin .eql (.t 50) (.c (.int .i64 0))),
 i1 52 (.pick (.t 48) (.t 51) (.c (.bool false))),
 mv 53 52,
 mvg 54 0 53 true,
 i1g 55 53 true (.call 24 [(.t 54)]),
 i1g 56 53 true (.bin .eql (.t 55) (.c (.int .i64 0))),
 i1 57 (.pick (.t 53) (.t 56) (.c (.bool false))),
 mv 4 57] [4])
 .ret))))
def res_law19_none : List IRes := [⟨4, true, none⟩]
theorem is_law19_none : fnIs Go.Proofs.Tryz.prog 33 58 res_law19_none ir_law19_none = true := by kernel_rfl
theorem file_All_nil {s : Store} {Q : List AV → Store → Prop} (hq : Q [.sl true 6 0 [], .int .i64 0, .int .i64 1] s) : FN Go.Proofs.Tryz.prog 27 [.nilp] s Q := by
  refine FN.weak (FN.of (draw_ok mix) is_file_All rfl (Nat.le_of_ble_eq_true rfl) ?_)
  rw [ir_file_All, res_file_All]
  simp -implicitDefEqProofs only [go_sem, start, startE, resVs, resV, resC, allV, retK, Nat.reduceBEq, Nat.reduceAdd, Nat.reduceMul, Nat.reduceLeDiff, Nat.reduceEqDiff, Nat.reduceBNe, Nat.ble_eq, UInt8.reduceToNat, UInt32.reduceToNat]
  refine file_is_nil ?_
  simp -implicitDefEqProofs only [go_sem, start, startE, resVs, resV, resC, allV, retK, Nat.reduceBEq, Nat.reduceAdd, Nat.reduceMul, Nat.reduceLeDiff, Nat.reduceEqDiff, Nat.reduceBNe, Nat.ble_eq, UInt8.reduceToNat, UInt32.reduceToNat]
  exact ⟨fun _ => ⟨s, Sub.refl s, hq⟩, fun h => (by cases h)⟩
theorem file_All_zero {s : Store} {F : Nat} {Q : List AV → Store → Prop} (h : s F = some (.cells [.int .i64 0, .int .i64 0, .nilf])) (hq : Q [.sl true 6 0 [], .int .i64 0, .int .i64 1] s) : FN Go.Proofs.Tryz.prog 27 [.ref F 0] s Q := by
  refine FN.weak (FN.of (draw_ok mix) is_file_All rfl (Nat.le_of_ble_eq_true rfl) ?_)
  rw [ir_file_All, res_file_All]
  simp -implicitDefEqProofs only [go_sem, start, startE, resVs, resV, resC, allV, retK, Nat.reduceBEq, Nat.reduceAdd, Nat.reduceMul, Nat.reduceLeDiff, Nat.reduceEqDiff, Nat.reduceBNe, Nat.ble_eq, UInt8.reduceToNat, UInt32.reduceToNat]
  refine file_is_zero h ?_
  simp -implicitDefEqProofs only [go_sem, start, startE, resVs, resV, resC, allV, retK, Nat.reduceBEq, Nat.reduceAdd, Nat.reduceMul, Nat.reduceLeDiff, Nat.reduceEqDiff, Nat.reduceBNe, Nat.ble_eq, UInt8.reduceToNat, UInt32.reduceToNat]
  exact ⟨fun _ => ⟨s, Sub.refl s, hq⟩, fun h => (by cases h)⟩
abbrev DOC (d : api_Doc) : List AV := [.sl false 6 d.Objects.length (flat d.Objects), .int .i64 d.Root]
theorem file_Of_fn {s : Store} {d : api_Doc} {Q : List AV → Store → Prop} (hq : ∀ F db s', Sub s s' → FileAt s' F d.Root d.Objects.length 76 [.ref db 0] → s' db = some (.cells (DOC d)) → Q [.ref F 0] s') : FN Go.Proofs.Tryz.prog 31 [.agg (DOC d)] s Q := by
  refine FN.weak (FN.of (draw_ok mix) is_file_Of rfl (Nat.le_of_ble_eq_true rfl) ?_)
  rw [ir_file_Of, res_file_Of]
  simp -implicitDefEqProofs only [go_sem, start, startE, resVs, resV, resC, allV, retK, Nat.reduceBEq, Nat.reduceAdd, Nat.reduceMul, Nat.reduceLeDiff, Nat.reduceEqDiff, Nat.reduceBNe, Nat.ble_eq, UInt8.reduceToNat, UInt32.reduceToNat]
  intro db hdb F hF
  have n2 := hF
  rw [set_none] at n2
  exact ⟨_, Sub.refl _, hq F db _ (((Sub.refl s).set hdb).set hF) (set_same ..) (by rw [set_ne (Ne.symm n2.1), set_same])⟩
def file_Of1 (d : api_Doc) (n : Int) : Option (api_Object × Int × Int) :=
  if decide (n < 1) || decide (n > (d.Objects.length : Int)) then some (zeroO, 0, 0) else some (ix d.Objects (n - 1), 0, 0)
theorem file_Of1_fn {s : Store} {d : api_Doc} {db : Nat} {n : Int} {Q : List AV → Store → Prop} (hl : d.Objects.length ≤ 2147483647) (h : s db = some (.cells (DOC d))) : ok (file_Of1 d n) (fun r => Q [OBJ r.1, .int .i64 r.2.1, .int .i64 r.2.2] s) → FN Go.Proofs.Tryz.prog 76 [.int .i64 n, .ref db 0] s Q := by
  intro hh
  refine FN.weak (FN.of (draw_ok mix) is_file_Of1 rfl (Nat.le_of_ble_eq_true rfl) ?_)
  rw [ir_file_Of1, res_file_Of1]
  revert hh
  rw [file_Of1]
  simp -implicitDefEqProofs only [go_sem, start, startE, resVs, resV, resC, allV, retK, Nat.reduceBEq, Nat.reduceAdd, Nat.reduceMul, Nat.reduceLeDiff, Nat.reduceEqDiff, Nat.reduceBNe, Nat.ble_eq, UInt8.reduceToNat, UInt32.reduceToNat, h]
  rintro ⟨c1, c2⟩
  refine ⟨fun hc => ⟨s, Sub.refl s, c1 hc⟩, fun hc => ?_⟩
  have hn : 1 ≤ n ∧ n ≤ d.Objects.length := by simp at hc; omega
  have c2 := c2 hc
  have hw : w64 (n - 1) = n - 1 := w64_id (by omega) (by omega)
  rw [hw]
  exact ⟨by omega, s, Sub.refl s, c2⟩
theorem same_zero : ref14_Same zeroO zeroO = some true := by kernel_rfl
theorem none_nil {s : Store} {n : Int} {Q : List AV → Store → Prop} (hq : Q [.bool true] s) : FN Go.Proofs.Tryz.prog 33 [.nilp, .int .i64 n] s Q := by
  refine FN.weak (FN.of (draw_ok mix) is_law19_none rfl (Nat.le_of_ble_eq_true rfl) ?_)
  rw [ir_law19_none, res_law19_none]
  simp -implicitDefEqProofs only [go_sem, start, startE, resVs, resV, resC, allV, retK, Nat.reduceBEq, Nat.reduceAdd, Nat.reduceMul, Nat.reduceLeDiff, Nat.reduceEqDiff, Nat.reduceBNe, Nat.ble_eq, UInt8.reduceToNat, UInt32.reduceToNat]
  refine file_Get_nil ?_
  simp -implicitDefEqProofs only [go_sem, start, startE, resVs, resV, resC, allV, retK, Nat.reduceBEq, Nat.reduceAdd, Nat.reduceMul, Nat.reduceLeDiff, Nat.reduceEqDiff, Nat.reduceBNe, Nat.ble_eq, UInt8.reduceToNat, UInt32.reduceToNat]
  refine file_All_nil ?_
  simp -implicitDefEqProofs only [go_sem, start, startE, resVs, resV, resC, allV, retK, Nat.reduceBEq, Nat.reduceAdd, Nat.reduceMul, Nat.reduceLeDiff, Nat.reduceEqDiff, Nat.reduceBNe, Nat.ble_eq, UInt8.reduceToNat, UInt32.reduceToNat]
  refine ⟨[.bool true], rfl, ref14_Same_fe same_zero, ?_⟩
  simp -implicitDefEqProofs only [go_sem, start, startE, resVs, resV, resC, allV, retK, Nat.reduceBEq, Nat.reduceAdd, Nat.reduceMul, Nat.reduceLeDiff, Nat.reduceEqDiff, Nat.reduceBNe, Nat.ble_eq, UInt8.reduceToNat, UInt32.reduceToNat, beq_self_eq_true, Bool.and_self, Bool.and_true]
  refine ⟨[.int .i64 0], rfl, ?_, ?_⟩
  · first | exact ⟨_, rfl, file_Root_nil ⟨rfl, rfl⟩⟩ | exact fun _ => ⟨_, rfl, file_Root_nil ⟨rfl, rfl⟩⟩ | exact file_Root_nil ⟨rfl, rfl⟩
  simp -implicitDefEqProofs only [go_sem, start, startE, resVs, resV, resC, allV, retK, Nat.reduceBEq, Nat.reduceAdd, Nat.reduceMul, Nat.reduceLeDiff, Nat.reduceEqDiff, Nat.reduceBNe, Nat.ble_eq, UInt8.reduceToNat, UInt32.reduceToNat, beq_self_eq_true, Bool.and_self, Bool.and_true]
  refine ⟨[.int .i64 0], rfl, ?_, ?_⟩
  · first | exact ⟨_, rfl, file_Count_nil ⟨rfl, rfl⟩⟩ | exact fun _ => ⟨_, rfl, file_Count_nil ⟨rfl, rfl⟩⟩ | exact file_Count_nil ⟨rfl, rfl⟩
  simp -implicitDefEqProofs only [go_sem, start, startE, resVs, resV, resC, allV, retK, Nat.reduceBEq, Nat.reduceAdd, Nat.reduceMul, Nat.reduceLeDiff, Nat.reduceEqDiff, Nat.reduceBNe, Nat.ble_eq, UInt8.reduceToNat, UInt32.reduceToNat, beq_self_eq_true, Bool.and_self, Bool.and_true]
  exact ⟨s, Sub.refl s, hq⟩
theorem none_zero {s : Store} {F : Nat} {n : Int} {Q : List AV → Store → Prop} (h : s F = some (.cells [.int .i64 0, .int .i64 0, .nilf])) (hq : Q [.bool true] s) : FN Go.Proofs.Tryz.prog 33 [.ref F 0, .int .i64 n] s Q := by
  refine FN.weak (FN.of (draw_ok mix) is_law19_none rfl (Nat.le_of_ble_eq_true rfl) ?_)
  rw [ir_law19_none, res_law19_none]
  simp -implicitDefEqProofs only [go_sem, start, startE, resVs, resV, resC, allV, retK, Nat.reduceBEq, Nat.reduceAdd, Nat.reduceMul, Nat.reduceLeDiff, Nat.reduceEqDiff, Nat.reduceBNe, Nat.ble_eq, UInt8.reduceToNat, UInt32.reduceToNat]
  refine file_Get_zero h ?_
  simp -implicitDefEqProofs only [go_sem, start, startE, resVs, resV, resC, allV, retK, Nat.reduceBEq, Nat.reduceAdd, Nat.reduceMul, Nat.reduceLeDiff, Nat.reduceEqDiff, Nat.reduceBNe, Nat.ble_eq, UInt8.reduceToNat, UInt32.reduceToNat]
  refine file_All_zero h ?_
  simp -implicitDefEqProofs only [go_sem, start, startE, resVs, resV, resC, allV, retK, Nat.reduceBEq, Nat.reduceAdd, Nat.reduceMul, Nat.reduceLeDiff, Nat.reduceEqDiff, Nat.reduceBNe, Nat.ble_eq, UInt8.reduceToNat, UInt32.reduceToNat]
  refine ⟨[.bool true], rfl, ref14_Same_fe same_zero, ?_⟩
  simp -implicitDefEqProofs only [go_sem, start, startE, resVs, resV, resC, allV, retK, Nat.reduceBEq, Nat.reduceAdd, Nat.reduceMul, Nat.reduceLeDiff, Nat.reduceEqDiff, Nat.reduceBNe, Nat.ble_eq, UInt8.reduceToNat, UInt32.reduceToNat, beq_self_eq_true, Bool.and_self, Bool.and_true]
  refine ⟨[.int .i64 0], rfl, ?_, ?_⟩
  · first | exact ⟨_, rfl, file_Root_zero h ⟨rfl, rfl⟩⟩ | exact fun _ => ⟨_, rfl, file_Root_zero h ⟨rfl, rfl⟩⟩ | exact file_Root_zero h ⟨rfl, rfl⟩
  simp -implicitDefEqProofs only [go_sem, start, startE, resVs, resV, resC, allV, retK, Nat.reduceBEq, Nat.reduceAdd, Nat.reduceMul, Nat.reduceLeDiff, Nat.reduceEqDiff, Nat.reduceBNe, Nat.ble_eq, UInt8.reduceToNat, UInt32.reduceToNat, beq_self_eq_true, Bool.and_self, Bool.and_true]
  refine ⟨[.int .i64 0], rfl, ?_, ?_⟩
  · first | exact ⟨_, rfl, file_Count_zero h ⟨rfl, rfl⟩⟩ | exact fun _ => ⟨_, rfl, file_Count_zero h ⟨rfl, rfl⟩⟩ | exact file_Count_zero h ⟨rfl, rfl⟩
  simp -implicitDefEqProofs only [go_sem, start, startE, resVs, resV, resC, allV, retK, Nat.reduceBEq, Nat.reduceAdd, Nat.reduceMul, Nat.reduceLeDiff, Nat.reduceEqDiff, Nat.reduceBNe, Nat.ble_eq, UInt8.reduceToNat, UInt32.reduceToNat, beq_self_eq_true, Bool.and_self, Bool.and_true]
  exact ⟨s, Sub.refl s, hq⟩
end Go.AB
end

section
set_option maxRecDepth 100000
namespace Go.AB
open Go
def L17 : List UInt8 := [49, 32, 48, 32, 111, 98, 106, 32, 55, 32, 101, 110, 100, 111, 98, 106, 32]
def blk17 : Blk := upd (fun _ => none) 0 (over zero4 0 L17)
def g17 : SrcG := ⟨17, [⟨0, 17⟩], blk17⟩
def seven : api_Object := ⟨⟨2, 7, ⟨[]⟩, []⟩, false, ⟨[]⟩⟩
theorem wv_parse : frame_Parse L17 0 true = some (1, seven, 16, 0) := by kernel_rfl
theorem wv_find : chain_Find ⟨[0], 1⟩ 1 = some (0, true) := by kernel_rfl
theorem wv_set : Set_Put [] ⟨0, 17⟩ = some [⟨0, 17⟩] := by kernel_rfl
theorem wv_read : Source_Read g17 0 4096 = some (L17, true) := by
  unfold Source_Read
  rw [if_neg (by decide)]
  refine bnd_of (a := (17 : Int)) (by kernel_rfl) ?_
  refine need_of (by decide) ?_
  refine bnd_of (a := L17) (by kernel_rfl) ?_
  rfl
theorem wv_put : Source_Put ⟨17, [], fun _ => none⟩ 0 L17 = some (g17, 0) := by
  unfold Source_Put
  rw [if_neg (by decide), if_neg (by decide)]
  refine bnd_of (a := [⟨0, 17⟩]) (by kernel_rfl) ?_
  refine bnd_of (a := blk17) (by kernel_rfl) ?_
  exact bnd_of (a := [⟨0, 17⟩]) (show Set_Put [] ⟨0, w64 (0 + (L17.length : Int))⟩ = _ by kernel_rfl) rfl
theorem wv_fp : file_parse g17 0 = some (1, seven, 0, 0) := by
  have h : parseB g17 0 4096 = some (.inr (1, seven, 0, 0)) := by
    unfold parseB
    refine bnd_of (a := (L17, true)) wv_read ?_
    refine bnd_of (a := (1, seven, 16, 0)) wv_parse ?_
    rfl
  have r : Runs (parseB g17 0) 1 4096 (1, seven, 0, 0) := .stop h
  exact r.iter (by decide)
theorem wv_new1 : file_New1 g17 ⟨[0], 1⟩ 1 = some (seven, 0, 0) := by
  unfold file_New1
  refine bnd_of (a := (0, true)) wv_find ?_
  rw [if_neg (by decide), if_neg (by decide)]
  refine bnd_of (a := (1, seven, 0, 0)) wv_fp ?_
  rfl
theorem wv_of1 : file_Of1 ⟨[seven], 1⟩ 1 = some (seven, 0, 0) := by kernel_rfl
end Go.AB
end

section
set_option maxRecDepth 4000
namespace Go.AB
open Go
attribute [-go_sem] Nat.add_zero ge_0 part_zero
def ir_law19_works : IC :=
 (.seq (.reg none [i1 0 (.mov false (.c (.bool false)))] [])
 (.seq (.reg none [i1 9 (.buildSl 1 17 [.int .u8 0, .int .u8 0, .int .u8 0, .int .u8 0, .int .u8 0, .int .u8 0, .int .u8 0, .int .u8 0, .int .u8 0, .int .u8 0, .int .u8 0, .int .u8 0, .int .u8 0, .int .u8 0, .int .u8 0, .int .u8 0, .int .u8 0] [(0, 1, (.c (.int .u8 49))), (1, 1, (.c (.int .u8 32))), (2, 1, (.c (.int .u8 48))), (3, 1, (.c (.int .u8 32))), (4, 1, (.c (.int .u8 111))), (5, 1, (.c (.int .u8 98))), (6, 1, (.c (.int .u8 106))), (7, 1, (.c (.int .u8 32))), (8, 1, (.c (.int .u8 55))), (9, 1, (.c (.int .u8 32))), (10, 1, (.c (.int .u8 101))), (11, 1, (.c (.int .u8 110))), (12, 1, (.c (.int .u8 100))), (13, 1, (.c (.int .u8 111))), (14, 1, (.c (.int .u8 98))), (15, 1, (.c (.int .u8 106))), (16, 1, (.c (.int .u8 32)))]),
 i1 10 (.cvtRow (.t 9)),
 i1 11 (.call 26 [(.t 10)]),
 i1 12 (.buildSl 1 1 [.int .i64 0] [(0, 1, (.c (.int .i64 0)))]),
 i1 13 (.build [.sl false 1 0 [], .int .i64 0] [(0, 1, (.t 12)), (1, 1, (.c (.int .i64 1)))]),
 i1 14 (.call 16 [(.t 11), (.t 13)]),
 mv 1 14] [1])
 (.seq (.reg none [mv 16 1,
 i1 17 (.call 18 [(.t 16), (.c (.int .i64 1))]),
 i1 15 (.movT (.t 17)),
 i1 18 (.extract (.t 15) 0),
 i1 19 (.extract (.t 15) 1),
 i1 20 (.extract (.t 15) 2),
 i1 2 (.allocL [.int .i64 0, .int .i64 0, .str [], .sl true 4 0 [], .bool false, .str []]),
 i0 (.store 6 (.t 2) (.t 18)),
 mv 3 19,
 mv 4 20] [1, 2, 3, 4])
 (.seq (.reg none [i1 21 (.build [.int .i64 0, .int .i64 0, .str [], .sl true 4 0 []] [(0, 1, (.c (.int .i64 2))), (1, 1, (.c (.int .i64 7)))]),
 i1 22 (.build [.int .i64 0, .int .i64 0, .str [], .sl true 4 0 [], .bool false, .str []] [(0, 4, (.t 21))]),
 i1 23 (.buildSl 6 1 [.int .i64 0, .int .i64 0, .str [], .sl true 4 0 [], .bool false, .str []] [(0, 6, (.t 22))]),
 i1 24 (.build [.sl false 6 0 [], .int .i64 0] [(0, 1, (.t 23)), (1, 1, (.c (.int .i64 1)))]),
 i1 25 (.call 31 [(.t 24)]),
 mv 5 25] [1, 2, 3, 4, 5])
 (.seq (.reg none [mv 27 5,
 i1 28 (.call 18 [(.t 27), (.c (.int .i64 1))]),
 i1 26 (.movT (.t 28)),
 i1 29 (.extract (.t 26) 0),
 i1 30 (.extract (.t 26) 1),
 i1 31 (.extract (.t 26) 2),
 i1 6 (.allocL [.int .i64 0, .int .i64 0, .str [], .sl true 4 0 [], .bool false, .str []]),
 i0 (.store 6 (.t 6) (.t 29)),
 mv 7 30,
 mv 8 31] [1, 2, 3, 4, 5, 6, 7, 8])
 (.seq (.reg none [i1 32 (.fieldAddr 0 (.t 2)),
 i1 33 (.fieldAddr 1 (.t 32)),
 i1 34 (.load 1 false (.t 33)),
 i1 35 (.bin .eql (.t 34) (.c (.int .i64 7))),
 mv 36 35,
 mvg 37 3 36 true,
 i1g 38 36 true (.bin .eql (.t 37) (.c (.int .i64 0))),
 i1 39 (.pick (.t 36) (.t 38) (.c (.bool false))),
 mv 40 39,
 mvg 41 4 40 true,
 i1g 42 40 true (.bin .eql (.t 41) (.c (.int .i64 0))),
 i1 43 (.pick (.t 40) (.t 42) (.c (.bool false))),
 mv 44 43,
 i1g 45 44 true (.fieldAddr 0 (.t 6)),
 i1g 46 44 true (.fieldAddr 1 (.t 45)),
 i1g 47 44 true (.load 1 false (.t 46)),
 i1g 48 44 true (.bin .eql (.t 47) (.c (.int .i64 7))),
 i1 49 (.pick (.t 44) (.t 48) (.c (.bool false))),
 mv 50 49,
 mvg 51 7 50 true,
 i1g 52 50 true (.bin .eql (.t 51) (.c (.int .i64 0))),
 i1 53 (.pick (.t 50) (.t 52) (.c (.bool false))),
 mv 54 53,
 mvg 55 8 54 true,
 i1g 56 54 true (.bin .eql (.t 55) (.c (.int .i64 0))),
 i1 57 (.pick (.t 54) (.t 56) (.c (.bool false))),
 mv 58 57,
 mvg 59 1 58 true,
 i1g 60 58 true (.call 23 [(.t 59)]),
 i1g 61 58 true (.bin .eql (.t 60) (.c (.int .i64 1))),
 i1 62 (.pick (.t 58) (.t 61) (.c (.bool false))),
 mv 63 62,
 mvg 64 5 63 true,
 i1g 65 63 true (.call 23 [(.t 64)]),
 i1g 66 63 true (.bin .eql (.t 65) (.c (.int .i64 1))),
 i1 67 (.pick (.t 63) (.t 66) (.c (.bool false))),
 mv 68 67,
 mvg 69 1 68 true,
 i1g 70 68 true (.call 24 [(.t 69)]),
 i1g 71 68 true (.bin .eql (.t 70) (.c (.int .i64 1))),
 i1 72 (.pick (.t 68) (.t 71) (.c (.bool false))),
 mv 73 72,
 mvg 74 5 73 true,
 i1g 75 73 true (.call 24 [(.t 74)]),
 i1g 76 73 true (.bin .eql (.t 75) (.c (.int .i64 1))),
 i1 77 (.pick (.t 73) (.t 76) (.c (.bool false))),
 mv 0 77] [0])
 .ret))))))
def res_law19_works : List IRes := [⟨0, true, none⟩]
theorem is_law19_works : fnIs Go.Proofs.Tryz.prog 15 78 res_law19_works ir_law19_works = true := by kernel_rfl
def ir_law19_FileNone : IC :=
 (.seq (.reg none [i1 2 (.mov false (.c (.bool false)))] [0])
 (.seq (.reg none [mv 3 0,
 i1 4 (.call 33 [(.c (.nilp)), (.t 3)]),
 mv 5 4,
 i1g 6 5 true (.build [.int .i64 0, .int .i64 0, .nilf] []),
 i1g 7 5 true (.boxS 3 (.t 6)),
 mvg 8 0 5 true,
 i1g 9 5 true (.call 33 [(.t 7), (.t 8)]),
 i1 10 (.pick (.t 5) (.t 9) (.c (.bool false))),
 mv 11 10,
 i1g 12 11 true (.call 15 []),
 i1 13 (.pick (.t 11) (.t 12) (.c (.bool false))),
 mv 2 13] [2])
 .ret))
def res_law19_FileNone : List IRes := [⟨2, true, none⟩]
theorem is_law19_FileNone : fnIs Go.Proofs.Tryz.prog 7 14 res_law19_FileNone ir_law19_FileNone = true := by kernel_rfl
theorem SrcAt.sub {s0 s s' : Store} {B : Nat} {g : SrcG} (h : SrcAt s0 s B g) (hs : Sub s s') : SrcAt s0 s' B g := by
  obtain ⟨h1, h2, M, es, h3, h4, h5, h6, h7, h8⟩ := h
  exact ⟨fun b o hb => hs b o (h1 b o hb), h2, M, es, hs _ _ h3, h4, hs _ _ h5, h6, fun k => (h7 k).mono fun b l hb => hs b _ hb, h8⟩
theorem sevenN : seven.V.N = 7 := rfl
theorem works_fn {s : Store} {Q : List AV → Store → Prop} (hq : ∀ s', Sub s s' → Q [.bool true] s') : FN Go.Proofs.Tryz.prog 15 [] s Q := by
  refine FN.weak (FN.of (draw_ok mix) is_law19_works rfl (Nat.le_of_ble_eq_true rfl) ?_)
  rw [ir_law19_works, res_law19_works]
  simp -implicitDefEqProofs only [go_sem, start, startE, resVs, resV, resC, allV, retK, Nat.reduceBEq, Nat.reduceAdd, Nat.reduceMul, Nat.reduceLeDiff, Nat.reduceEqDiff, Nat.reduceBNe, Nat.ble_eq, UInt8.reduceToNat, UInt32.reduceToNat]
  refine FN_cast (as1 := [.sl false 1 L17.length (flat L17)]) (by rfl) (source_Whole_fn (l := L17) (by decide) ⟨(g17, 0), wv_put, fun B s1 h1 => ?_⟩)
  simp -implicitDefEqProofs only [go_sem, start, startE, resVs, resV, resC, allV, retK, Nat.reduceBEq, Nat.reduceAdd, Nat.reduceMul, Nat.reduceLeDiff, Nat.reduceEqDiff, Nat.reduceBNe, Nat.ble_eq, UInt8.reduceToNat, UInt32.reduceToNat]
  refine FN_cast (as1 := [.ref B 0, .agg (TAB ⟨[0], 1⟩)]) (by rfl) (file_New_fn (t := ⟨[0], 1⟩) fun F s2 hs2 hN => ?_)
  obtain ⟨tb, sb, hF, htb, hsb⟩ := hN
  simp -implicitDefEqProofs only [go_sem, start, startE, resVs, resV, resC, allV, retK, Nat.reduceBEq, Nat.reduceAdd, Nat.reduceMul, Nat.reduceLeDiff, Nat.reduceEqDiff, Nat.reduceBNe, Nat.ble_eq, UInt8.reduceToNat, UInt32.reduceToNat]
  refine file_Get_fn (r := (seven, 0, 0)) hF (eq_true (by kernel_rfl)) rfl (file_New1_fn (h1.sub hs2) (by decide) htb hsb ⟨(seven, 0, 0), wv_new1, rfl, rfl⟩) ?_
  simp -implicitDefEqProofs only [go_sem, start, startE, resVs, resV, resC, allV, retK, Nat.reduceBEq, Nat.reduceAdd, Nat.reduceMul, Nat.reduceLeDiff, Nat.reduceEqDiff, Nat.reduceBNe, Nat.ble_eq, UInt8.reduceToNat, UInt32.reduceToNat]
  refine FN_cast (as1 := [.agg (DOC ⟨[seven], 1⟩)]) (by rfl) (file_Of_fn (d := ⟨[seven], 1⟩) fun F2 db s3 hs3 hF2 hdb => ?_)
  simp -implicitDefEqProofs only [go_sem, start, startE, resVs, resV, resC, allV, retK, Nat.reduceBEq, Nat.reduceAdd, Nat.reduceMul, Nat.reduceLeDiff, Nat.reduceEqDiff, Nat.reduceBNe, Nat.ble_eq, UInt8.reduceToNat, UInt32.reduceToNat]
  refine file_Get_fn (r := (seven, 0, 0)) hF2 (eq_true (by kernel_rfl)) rfl (file_Of1_fn (by decide) hdb ⟨(seven, 0, 0), wv_of1, rfl, rfl⟩) ?_
  simp -implicitDefEqProofs only [go_sem, start, startE, resVs, resV, resC, allV, retK, Nat.reduceBEq, Nat.reduceAdd, Nat.reduceMul, Nat.reduceLeDiff, Nat.reduceEqDiff, Nat.reduceBNe, Nat.ble_eq, UInt8.reduceToNat, UInt32.reduceToNat, sevenN, beq_self_eq_true, Bool.and_self, Bool.and_true]
  have hF' : FileAt s3 F 1 1 63 [.ref tb 0, .ref sb 0] := hs3 _ _ hF
  have hF2' : FileAt s3 F2 1 1 76 [.ref db 0] := hF2
  have hsub : Sub s s3 := fun b o hb => hs3 b o (hs2 b o (h1.1 b o hb))
  refine ⟨fun _ => file_Root_fn hF' ?_, fun h => (by cases h)⟩
  simp -implicitDefEqProofs only [go_sem, start, startE, resVs, resV, resC, allV, retK, Nat.reduceBEq, Nat.reduceAdd, Nat.reduceMul, Nat.reduceLeDiff, Nat.reduceEqDiff, Nat.reduceBNe, Nat.ble_eq, UInt8.reduceToNat, UInt32.reduceToNat, sevenN, beq_self_eq_true, Bool.and_self, Bool.and_true]
  refine ⟨fun _ => file_Root_fn hF2' ?_, fun h => (by cases h)⟩
  simp -implicitDefEqProofs only [go_sem, start, startE, resVs, resV, resC, allV, retK, Nat.reduceBEq, Nat.reduceAdd, Nat.reduceMul, Nat.reduceLeDiff, Nat.reduceEqDiff, Nat.reduceBNe, Nat.ble_eq, UInt8.reduceToNat, UInt32.reduceToNat, sevenN, beq_self_eq_true, Bool.and_self, Bool.and_true]
  refine ⟨fun _ => file_Count_fn hF' ?_, fun h => (by cases h)⟩
  simp -implicitDefEqProofs only [go_sem, start, startE, resVs, resV, resC, allV, retK, Nat.reduceBEq, Nat.reduceAdd, Nat.reduceMul, Nat.reduceLeDiff, Nat.reduceEqDiff, Nat.reduceBNe, Nat.ble_eq, UInt8.reduceToNat, UInt32.reduceToNat, sevenN, beq_self_eq_true, Bool.and_self, Bool.and_true]
  refine ⟨fun _ => file_Count_fn hF2' ?_, fun h => (by cases h)⟩
  simp -implicitDefEqProofs only [go_sem, start, startE, resVs, resV, resC, allV, retK, Nat.reduceBEq, Nat.reduceAdd, Nat.reduceMul, Nat.reduceLeDiff, Nat.reduceEqDiff, Nat.reduceBNe, Nat.ble_eq, UInt8.reduceToNat, UInt32.reduceToNat, sevenN, beq_self_eq_true, Bool.and_self, Bool.and_true]
  exact ⟨s3, Sub.refl _, hq s3 hsub⟩
theorem FileNone_fe {s : Store} {n : Int} : FE Go.Proofs.Tryz.prog 7 [.int .i64 n] s [.bool true] s := by
  refine FN.weak (FN.of (draw_ok mix) is_law19_FileNone rfl (Nat.le_of_ble_eq_true rfl) ?_)
  rw [ir_law19_FileNone, res_law19_FileNone]
  simp -implicitDefEqProofs only [go_sem, start, startE, resVs, resV, resC, allV, retK, Nat.reduceBEq, Nat.reduceAdd, Nat.reduceMul, Nat.reduceLeDiff, Nat.reduceEqDiff, Nat.reduceBNe, Nat.ble_eq, UInt8.reduceToNat, UInt32.reduceToNat]
  refine none_nil ?_
  simp -implicitDefEqProofs only [go_sem, start, startE, resVs, resV, resC, allV, retK, Nat.reduceBEq, Nat.reduceAdd, Nat.reduceMul, Nat.reduceLeDiff, Nat.reduceEqDiff, Nat.reduceBNe, Nat.ble_eq, UInt8.reduceToNat, UInt32.reduceToNat, beq_self_eq_true, Bool.and_self, Bool.and_true]
  refine ⟨fun _ b hb => ?_, fun h => (by cases h)⟩
  refine ⟨fun _ => none_zero (set_same ..) ?_, fun h => (by cases h)⟩
  simp -implicitDefEqProofs only [go_sem, start, startE, resVs, resV, resC, allV, retK, Nat.reduceBEq, Nat.reduceAdd, Nat.reduceMul, Nat.reduceLeDiff, Nat.reduceEqDiff, Nat.reduceBNe, Nat.ble_eq, UInt8.reduceToNat, UInt32.reduceToNat, beq_self_eq_true, Bool.and_self, Bool.and_true]
  refine ⟨fun _ => works_fn fun s' hs => ?_, fun h => (by cases h)⟩
  simp -implicitDefEqProofs only [go_sem, start, startE, resVs, resV, resC, allV, retK, Nat.reduceBEq, Nat.reduceAdd, Nat.reduceMul, Nat.reduceLeDiff, Nat.reduceEqDiff, Nat.reduceBNe, Nat.ble_eq, UInt8.reduceToNat, UInt32.reduceToNat, beq_self_eq_true, Bool.and_self, Bool.and_true]
  first | exact ⟨s, fun c o hc => hs c o ((Sub.refl s).set hb c o hc), rfl, rfl⟩ | exact fun c o hc => hs c o ((Sub.refl s).set hb c o hc) | exact ⟨s, fun c o hc => hs c o ((Sub.refl s).set hb c o hc), trivial, rfl⟩ | (refine ⟨s, ?_, rfl⟩; exact fun c o hc => hs c o ((Sub.refl s).set hb c o hc)) | trace_state
end Go.AB
end

section
namespace Go.AB
open Go
def law19_FileNone (_ : Int) : Option Bool := some true
theorem law19_FileNone_fe {n_0 : Int} {s : Store} {r : Bool} (h : law19_FileNone n_0 = some r) : FE Go.Proofs.Tryz.prog 7 [.int .i64 n_0] s [.bool r] s := by
  cases h
  exact FileNone_fe
theorem law19_FileNone_true (n : Int) : law19_FileNone n = some true := rfl
end Go.AB
end

section
namespace Go.AB
open Go Go.RowKit Go.ChangeShapes Go.WideShapes
def bigR (N : Nat) (w : World) (b : Nat) : Nat := if b < w.heap.size then N else 0
theorem law_calls' {P : Program} {w : World} {f : FuncId} {args : List AV} {vs : Array Value} (N : Nat) (hf : FN P f args noStore fun rs _ => rs = [.bool true]) (ha : ArgsR w (bigR N w) args vs) :
    Calls P f vs w fun e w' => e = .returned (.bool true) ∧ Below w.heap.size w w' := by
  refine (hf ⟨bigR N w, fun _ => .none⟩ w vs ⟨fun _ _ => rfl, fun b hb => ?_⟩ (fun b => .inl rfl) (fun b o h => by cases h) ha).mono fun e w' ⟨v, rs, s', G', he, hq, _, _, hr, hp⟩ => ?_
  · show bigR N w b = 0
    unfold bigR
    rw [if_neg (by omega)]
  · subst hq
    refine ⟨?_, ⟨hp.os, hp.tape, hp.output, hp.size, fun b hb => hp.frame b hb (.inr rfl)⟩⟩
    rw [he]
    have := VR.inv_bool hr.1
    rw [this]
def VRs (w : World) (R : Nat → Nat) (as1 : List AV) (cs : List Value) : Prop := cs.length = as1.length ∧ ∀ (j : Nat) (a : AV) (v : Value), as1[j]? = some a → cs[j]? = some v → VR w R a v
theorem VRs.one {w : World} {R : Nat → Nat} {a : AV} {v : Value} (h : VR w R a v) : VRs w R [a] [v] := by
  refine ⟨rfl, fun j a' v' h1 h2 => ?_⟩
  cases j with
  | zero => cases h1; cases h2; exact h
  | succ j => simp at h1
theorem VRs.append {w : World} {R : Nat → Nat} {as1 bs : List AV} {cs ds : List Value} (h : VRs w R as1 cs) (k : VRs w R bs ds) : VRs w R (as1 ++ bs) (cs ++ ds) := by
  refine ⟨by rw [List.length_append, List.length_append, h.1, k.1], fun j a v h1 h2 => ?_⟩
  rcases Nat.lt_or_ge j as1.length with hj | hj
  · rw [List.getElem?_append_left hj] at h1
    rw [List.getElem?_append_left (by rw [h.1]; exact hj)] at h2
    exact h.2 j a v h1 h2
  · rw [List.getElem?_append_right hj] at h1
    rw [List.getElem?_append_right (by rw [h.1]; exact hj), h.1] at h2
    exact k.2 _ a v h1 h2
def OpensC (P : Program) (t : TypeId) {α : Type} (n : Nat) (C : α → List AV) (wf : α → Prop) : Prop :=
  ∀ (H : Type) (enc : TypeId × Value → H) (w : World) (fuel : Nat) (cs : List Value) (x : DataW H × List MemPlace), DataW.trod enc P w 0 (fun _ => true) true fuel t cs = some x →
    cs.length = n ∧ ∃ a : α, wf a ∧ Fl (C a) ∧ ∃ N0, ∀ N, N0 ≤ N → VRs w (bigR N w) (C a) cs
def Opens (P : Program) (t : TypeId) (α : Type) [Enc α] (wf : α → Prop) : Prop := OpensC P t (Enc.w α) (Enc.cells : α → List AV) wf
section
variable {P : Program} {t : TypeId}
theorem fl_one {a : AV} (h : flatV a = true) : Fl [a] := by
  intro c hc
  rw [List.mem_singleton] at hc; rw [hc]; exact h
theorem opens_bool (ht : P.underlying t = some .bool) : Opens P t Bool fun _ => True := by
  intro H enc w fuel cs x h
  obtain ⟨b, rfl, _⟩ := DataW.trod_bool ht h
  exact ⟨rfl, b, trivial, fl_one rfl, 0, fun N _ => VRs.one (.bool b)⟩
theorem opens_int (ht : P.underlying t = some (.int .i64)) : Opens P t Int fun n => -9223372036854775808 ≤ n ∧ n ≤ 9223372036854775807 := by
  intro H enc w fuel cs x h
  obtain ⟨n, rfl, _, hw⟩ := DataW.trod_int ht h
  refine ⟨rfl, n, ?_, fl_one rfl, 0, fun N _ => VRs.one (.int _ n)⟩
  simpa [Lit.wf, IntKind.min, IntKind.max, IntKind.signed, IntKind.bits] using hw
theorem opens_u8 (ht : P.underlying t = some (.int .u8)) : Opens P t UInt8 fun _ => True := by
  intro H enc w fuel cs x h
  obtain ⟨n, rfl, _, hw⟩ := DataW.trod_int ht h
  have hb : 0 ≤ n ∧ n ≤ 255 := by simpa [Lit.wf, IntKind.min, IntKind.max, IntKind.signed, IntKind.bits] using hw
  refine ⟨rfl, UInt8.ofNat n.toNat, trivial, fl_one rfl, 0, fun N _ => ?_⟩
  have e : ((UInt8.ofNat n.toNat).toNat : Int) = n := by
    rw [UInt8.toNat_ofNat']; omega
  show VRs _ _ [.int .u8 ((UInt8.ofNat n.toNat).toNat : Int)] _
  rw [e]
  exact VRs.one (.int _ n)
theorem opens_u32 (ht : P.underlying t = some (.int .u32)) : Opens P t UInt32 fun _ => True := by
  intro H enc w fuel cs x h
  obtain ⟨n, rfl, _, hw⟩ := DataW.trod_int ht h
  have hb : 0 ≤ n ∧ n ≤ 4294967295 := by simpa [Lit.wf, IntKind.min, IntKind.max, IntKind.signed, IntKind.bits] using hw
  refine ⟨rfl, UInt32.ofNat n.toNat, trivial, fl_one rfl, 0, fun N _ => ?_⟩
  have e : ((UInt32.ofNat n.toNat).toNat : Int) = n := by
    rw [UInt32.toNat_ofNat']; omega
  show VRs _ _ [.int .u32 ((UInt32.ofNat n.toNat).toNat : Int)] _
  rw [e]
  exact VRs.one (.int _ n)
theorem opens_u64 (ht : P.underlying t = some (.int .u64)) : Opens P t UInt64 fun _ => True := by
  intro H enc w fuel cs x h
  obtain ⟨n, rfl, _, hw⟩ := DataW.trod_int ht h
  have hb : 0 ≤ n ∧ n ≤ 18446744073709551615 := by simpa [Lit.wf, IntKind.min, IntKind.max, IntKind.signed, IntKind.bits] using hw
  refine ⟨rfl, UInt64.ofNat n.toNat, trivial, fl_one rfl, 0, fun N _ => ?_⟩
  have e : ((UInt64.ofNat n.toNat).toNat : Int) = n := by
    rw [UInt64.toNat_ofNat']; omega
  show VRs _ _ [.int .u64 ((UInt64.ofNat n.toNat).toNat : Int)] _
  rw [e]
  exact VRs.one (.int _ n)
theorem opens_str (ht : P.underlying t = some .string) : Opens P t Str fun s => s.b.length ≤ maxLen := by
  intro H enc w fuel cs x h
  obtain ⟨s, rfl, _, hs⟩ := DataW.trod_string ht h
  refine ⟨rfl, ⟨s.data.toList⟩, by simpa using hs, fl_one rfl, 0, fun N _ => ?_⟩
  have := VR.str (w := w) (R := bigR N w) s.data.toList
  exact VRs.one this
theorem choose_list {α : Type} {Q : Nat → α → Prop} : ∀ n : Nat, (∀ i, i < n → ∃ a, Q i a) → ∃ l : List α, l.length = n ∧ ∀ (i : Nat) (a : α), l[i]? = some a → Q i a
  | 0, _ => ⟨[], rfl, fun i a h => by simp at h⟩
  | n + 1, h => by
    obtain ⟨l, h1, h2⟩ := choose_list n fun i hi => h i (by omega)
    obtain ⟨a, ha⟩ := h n (by omega)
    refine ⟨l ++ [a], by simp [h1], fun i x hx => ?_⟩
    rcases Nat.lt_or_ge i n with hi | hi
    · rw [List.getElem?_append_left (by omega)] at hx; exact h2 i x hx
    · rw [List.getElem?_append_right (by omega)] at hx
      have : i = n := by
        have := (List.getElem?_eq_some_iff.1 hx).1
        simp at this; omega
      subst this
      rw [h1, Nat.sub_self] at hx
      injection hx with hx; rw [← hx]; exact ha
theorem common {Q : Nat → Nat → Prop} : ∀ n : Nat, (∀ i, i < n → ∃ N0, ∀ N, N0 ≤ N → Q i N) → ∃ N0, ∀ N, N0 ≤ N → ∀ i, i < n → Q i N
  | 0, _ => ⟨0, fun _ _ i h => absurd h (Nat.not_lt_zero i)⟩
  | n + 1, h => by
    obtain ⟨a, ha⟩ := common n fun i hi => h i (by omega)
    obtain ⟨b, hb⟩ := h n (by omega)
    refine ⟨max a b, fun N hN i hi => ?_⟩
    rcases Nat.lt_or_ge i n with h1 | h1
    · exact ha N (by omega) i h1
    · have : i = n := by omega
      rw [this]; exact hb N (by omega)
theorem flat_get {α : Type} [Enc α] (l : List α) {i r : Nat} {a : α} (hi : l[i]? = some a) (hr : r < Enc.w α) : (flat l)[i * Enc.w α + r]? = (Enc.cells a)[r]? := by
  have h1 := flat_sub l (Enc.w α) i 1 rfl
  obtain ⟨hlt, he⟩ := List.getElem?_eq_some_iff.1 hi
  have h2 : (l.drop i).take 1 = [a] := by rw [List.drop_eq_getElem_cons hlt, he]; rfl
  rw [h2, flat_cons, flat_nil, List.append_nil, Nat.one_mul] at h1
  rw [← h1]
  unfold AB.sub
  rw [List.getElem?_take, if_pos hr, List.getElem?_drop]
theorem open_slice {H : Type} {enc : TypeId × Value → H} {w : World} {e : TypeId} {α : Type} [Enc α] {wf : α → Prop} {b0 : Nat} {v : Value} {d : DataW H} {ps : List MemPlace}
    (ht : P.underlying t = some (.slice e)) (hc : P.cellsOf e = Enc.w α) (he : Opens P e α wf) (hval : Value.okWide P w .any b0 t v) (h : DataW.Trod enc P w 0 (fun _ => true) true t v d ps) :
    ∃ l : List α, l.length ≤ maxLen ∧ (∀ a ∈ l, wf a) ∧ ∃ N0, ∀ N, N0 ≤ N → VR w (bigR N w) (.sl false (Enc.w α) l.length (flat l)) v := by
  have hv : v = .slice none 0 0 ∨ ∃ a len cap, v = .slice (some a) len cap ∧ w.has P .any b0 a e cap := by
    unfold Value.okWide Cell.okWide Cell.ok at hval
    rw [ht] at hval
    dsimp only at hval
    split at hval <;> simp_all
    exact ⟨_, _, _, ⟨rfl, rfl, rfl⟩, hval.2.2⟩
  obtain ⟨fuel, hf⟩ := h
  rcases hv with rfl | ⟨a, len, cap, rfl, hhas⟩
  · exact ⟨[], Nat.zero_le _, (fun _ h => absurd h List.not_mem_nil), 0, fun N _ => .slnil _ _⟩
  · obtain ⟨_, hsp, row, cells, hsh, _⟩ := hhas
    obtain ⟨b, off, spot⟩ := a
    simp only at hsp hsh
    subst hsp
    have hb : b < w.heap.size := by
      rcases Nat.lt_or_ge b w.heap.size with h | h
      · exact h
      · unfold World.shape? at hsh
        rw [Array.getElem?_eq_none h] at hsh
        cases hsh
    rcases DataW.trod_slice ht hf with ⟨h0, _⟩ | ⟨a, len', cap', elems, rest, n, _, hcs, _, _, hl, hm, hlen, hel, _⟩
    · simp [Value.cells] at h0
    · have hcs' : (a = ⟨b, off, none⟩ ∧ len' = len) ∧ cap' = cap := by
        simp [Value.cells] at hcs
        exact ⟨⟨hcs.1.symm, hcs.2.1.symm⟩, hcs.2.2.symm⟩
      obtain ⟨⟨rfl, rfl⟩, rfl⟩ := hcs'
      have each : ∀ i, i < len' → ∃ x : α × List Value, wf x.1 ∧ Fl (Enc.cells x.1) ∧ w.cells? 0 ((⟨b, off, none⟩ : Addr).add (i * Enc.w α)) (Enc.w α) = some x.2 ∧ ∃ N0, ∀ N, N0 ≤ N → VRs w (bigR N w) (Enc.cells x.1) x.2 := by
        intro i hi
        have h1 := hel i hi
        rw [hc, List.getElem?_eq_getElem (by omega), Option.bind_eq_some_iff] at h1
        obtain ⟨cs, h2, h3⟩ := h1
        obtain ⟨_, x, h4, h5, h6⟩ := he H enc w n cs _ h3
        exact ⟨(x, cs), h4, h5, h2, h6⟩
      obtain ⟨L, hL, hQ⟩ := choose_list len' each
      have hx : ∀ i, i < len' → ∃ x, L[i]? = some x := fun i hi => ⟨L[i]'(by omega), List.getElem?_eq_getElem (by omega)⟩
      obtain ⟨N0, hN0⟩ := common (Q := fun i N => ∀ x, L[i]? = some x → VRs w (bigR N w) (Enc.cells x.1) x.2) len' fun i hi => by
        obtain ⟨x, hx⟩ := hx i hi
        obtain ⟨_, _, _, N0, h⟩ := hQ i x hx
        exact ⟨N0, fun N hN y hy => by rw [hx] at hy; cases hy; exact h N hN⟩
      have hwf : ∀ a ∈ L.map (·.1), wf a ∧ Fl (Enc.cells a) := by
        intro a ha
        obtain ⟨x, hx, rfl⟩ := List.mem_map.1 ha
        obtain ⟨i, hi⟩ := List.getElem?_of_mem hx
        have := hQ i x hi
        exact ⟨this.1, this.2.1⟩
      have hget : ∀ (j : Nat) (c : AV), (flat (L.map (·.1)))[j]? = some c → ∃ v, w.cell? ⟨b, off + j, none⟩ = some v ∧ ∀ N, N0 ≤ N → VR w (bigR N w) c v := by
        intro j c hj
        have hw : 0 < Enc.w α := Enc.pos
        have hjl := (List.getElem?_eq_some_iff.1 hj).1
        rw [flat_len, List.length_map, hL] at hjl
        have hi : j / Enc.w α < len' := Nat.div_lt_of_lt_mul (by rw [Nat.mul_comm]; exact hjl)
        have hr : j % Enc.w α < Enc.w α := Nat.mod_lt _ hw
        have hje : j = j / Enc.w α * Enc.w α + j % Enc.w α := by rw [Nat.mul_comm]; exact (Nat.div_add_mod _ _).symm
        obtain ⟨x, hx⟩ := hx _ hi
        have h1 := flat_get (L.map (·.1)) (i := j / Enc.w α) (a := x.1) (by rw [List.getElem?_map, hx]; rfl) hr
        rw [← hje, hj] at h1
        obtain ⟨_, _, h2, _⟩ := hQ _ x hx
        obtain ⟨_, h3, h4⟩ := World.cells?_some h2
        have h5 := h4 _ hr
        rw [add_plain, add_plain, Nat.add_assoc, ← hje] at h5
        refine ⟨x.2[j % Enc.w α]'(by omega), by rw [h5, List.getElem?_eq_getElem], fun N hN => ?_⟩
        exact (hN0 N hN _ hi x hx).2 _ _ _ h1.symm (List.getElem?_eq_getElem _)
      refine ⟨L.map (·.1), by rw [List.length_map, hL]; omega, fun a ha => (hwf a ha).1, max N0 (off + len' * Enc.w α), fun N hN => ?_⟩
      rw [List.length_map, hL]
      refine .sl false (Enc.w α) len' _ b off cap' (fun j => (w.cell? ⟨b, off + j, none⟩).getD default) ?_ ?_ ?_ hl ?_ ?_
      · intro c hcm
        unfold flat at hcm
        obtain ⟨l, hl, hcl⟩ := List.mem_flatten.1 hcm
        obtain ⟨a, ha, rfl⟩ := List.mem_map.1 hl
        exact (hwf a ha).2 c hcl
      · rw [flat_len, List.length_map, hL]
      · rw [flat_len, List.length_map, hL]
        unfold bigR
        rw [if_pos hb]; omega
      · intro j c hj
        obtain ⟨v, h1, _⟩ := hget j c hj
        rw [h1]; rfl
      · intro j c hj
        obtain ⟨v, h1, h2⟩ := hget j c hj
        simp only [h1, Option.getD_some]; exact h2 N (by omega)
end
end Go.AB
end

section
namespace Go.AB
open Go Go.RowKit Go.ChangeShapes Go.WideShapes
section
variable {P : Program}
theorem trodAll_below {H : Type} {enc : TypeId × Value → H} (hl : laidOutB P = true) {W W' : World} (hb : Below W.heap.size W W') :
    ∀ {ts : List TypeId} {vs : List Value} {ds : List (DataW H)} {ps : List MemPlace}, (∀ t ∈ ts, P.readableRec t = true ∧ t < P.types.size) → DataW.TrodAll enc P W 0 (fun _ => true) true ts vs ds ps →
      DataW.TrodAll enc P W' 0 (fun b => decide (b < W.heap.size)) true ts vs ds ps
  | [], [], [], _, _, h => h
  | t :: ts, v :: vs, d :: ds, _, hr, h => by
    have hlt := h.lt
    obtain ⟨p, q, h1, h2, rfl⟩ := h
    have ht := hr t List.mem_cons_self
    exact ⟨p, q, Below.trod hl ht.1 ht.2 h1 hb fun x hx => hlt x (List.mem_append_left _ hx), trodAll_below hl hb (fun t ht => hr t (List.mem_cons_of_mem _ ht)) h2, rfl⟩
  | [], _ :: _, _, _, _, h => h.elim
  | [], [], _ :: _, _, _, h => h.elim
  | _ :: _, [], _, _, _, h => h.elim
  | _ :: _, _ :: _, [], _, _, h => h.elim
theorem law_post {H : Type} {enc : TypeId × Value → H} {fn : Func} {s : ChangeSpec} {f : FuncId} {W : World} {args : Array Value} {ds gs : List (DataW H)} {before : List MemPlace} {tb : TypeId}
    (hvars : s.vars = []) (hres : fn.resultTypes = #[tb]) (htb : P.underlying tb = some .bool) (hl : laidOutB P = true) (hr : ∀ t ∈ fn.params.toList, P.readableRec t = true ∧ t < P.types.size)
    (hspec : ∀ ds : List (DataW H), ds.length = fn.params.toList.length → s.fn H ds = { results := [.lit (.bool true)], args := ds })
    (hW : DataW.Whole enc P fn.params.toList s.vars false W args.toList ds gs before)
    (hc : Calls P f args W fun e w' => e = .returned (.bool true) ∧ Below W.heap.size W w') :
    Calls P f args W fun e W' => ∃ v, e = .returned v ∧ s.post enc P fn false true false false W args v W' := by
  refine hc.mono fun e W' ⟨he, hb⟩ => ⟨.bool true, he, ?_⟩
  have hW' := hW
  obtain ⟨p, q, hA, hV, rfl, hfz, hnd⟩ := hW
  rw [hvars] at hV
  obtain ⟨rfl, rfl⟩ := trodVars_none hV
  have hs := hspec ds (trodAll_length hA).2
  refine ⟨ds, [], _, [], p, [], hW', ?_, ?_, ?_, ?_, fun h => by cases h⟩
  · rw [List.append_nil, hs, hres]
    exact trodAll_mk1 (shut_bool htb true)
  · rw [List.append_nil, hs]
    exact trodAll_below hl hb hr hA
  · rw [List.append_nil, hs, hvars]
    exact rfl
  · exact World.keptBut_mono (fun p hp => hp.elim) (hb.frame fun _ => False)
def OpensF (P : Program) (fs : List (TypeId × Nat)) (o : Nat) {α : Type} (n : Nat) (C : α → List AV) (wf : α → Prop) : Prop :=
  ∀ (H : Type) (enc : TypeId × Value → H) (w : World) (fuel : Nat) (cs : List Value), (∀ f ∈ fs, ∃ x, DataW.trod enc P w 0 (fun _ => true) true fuel f.1 ((cs.drop f.2).take (P.cellsOf f.1)) = some x) →
    ∃ a : α, wf a ∧ Fl (C a) ∧ ∃ N0, ∀ N, N0 ≤ N → VRs w (bigR N w) (C a) ((cs.drop o).take n)
theorem opensF_nil {o : Nat} : OpensF P [] o 0 (fun _ : Unit => []) fun _ => True :=
  fun _ _ _ _ _ _ => ⟨(), trivial, (fun _ h => absurd h List.not_mem_nil), 0, fun _ _ => ⟨by simp, fun j a v h => by simp at h⟩⟩
theorem opensF_cons {t : TypeId} {o n1 n2 : Nat} {fs : List (TypeId × Nat)} {α β : Type} {C1 : α → List AV} {C2 : β → List AV} {wf1 : α → Prop} {wf2 : β → Prop}
    (h1 : OpensC P t n1 C1 wf1) (hc : P.cellsOf t = n1) (h2 : OpensF P fs (o + n1) n2 C2 wf2) : OpensF P ((t, o) :: fs) o (n1 + n2) (fun p : α × β => C1 p.1 ++ C2 p.2) fun p => wf1 p.1 ∧ wf2 p.2 := by
  intro H enc w fuel cs h
  obtain ⟨x, hx⟩ := h _ List.mem_cons_self
  obtain ⟨_, a, ha, hfa, N1, hN1⟩ := h1 H enc w fuel _ x hx
  obtain ⟨b, hb, hfb, N2, hN2⟩ := h2 H enc w fuel cs fun f hf => h f (List.mem_cons_of_mem _ hf)
  refine ⟨(a, b), ⟨ha, hb⟩, fun c hc => (List.mem_append.1 hc).elim (hfa c) (hfb c), max N1 N2, fun N hN => ?_⟩
  rw [List.take_add, List.drop_drop]
  refine VRs.append ?_ (hN2 N (by omega))
  rw [← hc]
  exact hN1 N (by omega)
theorem OpensC.map {t : TypeId} {n : Nat} {α β : Type} {C : α → List AV} {wf : α → Prop} (h : OpensC P t n C wf) {C' : β → List AV} {wf' : β → Prop} (g : α → β) (hC : ∀ a, C' (g a) = C a) (hw : ∀ a, wf a → wf' (g a)) : OpensC P t n C' wf' := by
  intro H enc w fuel cs x hx
  obtain ⟨h1, a, h2, h3, N0, h4⟩ := h H enc w fuel cs x hx
  exact ⟨h1, g a, hw a h2, by rw [hC]; exact h3, N0, by rw [hC]; exact h4⟩
theorem opens_struct {t : TypeId} {fs : Array Field} {n : Nat} {α : Type} {C : α → List AV} {wf : α → Prop} (ht : P.underlying t = some (.struct fs)) (hn : P.cellsOf t = n)
    (hf : OpensF P (fs.toList.map fun f => (f.type, f.offset)) 0 n C wf) : OpensC P t n C wf := by
  intro H enc w fuel cs x h
  obtain ⟨xs, m, _, _, hl, hxl, hel⟩ := DataW.trod_struct ht h
  obtain ⟨a, ha, hfa, N0, hN⟩ := hf H enc w m cs fun f hf => by
    obtain ⟨g, hg, rfl⟩ := List.mem_map.1 hf
    obtain ⟨i, hi⟩ := List.getElem?_of_mem hg
    have h1 := hel i g (by rw [← Array.getElem?_toList]; exact hi)
    have hi' := (List.getElem?_eq_some_iff.1 hi).1
    rw [List.getElem?_eq_getElem (by simpa [hxl] using hi')] at h1
    exact ⟨_, h1⟩
  refine ⟨by rw [hl, hn], a, ha, hfa, N0, fun N h => ?_⟩
  have := hN N h
  rwa [List.drop_zero, List.take_of_length_le (by omega)] at this
theorem opens_array {t e : TypeId} {m k n : Nat} {α : Type} {C : α → List AV} {wf : α → Prop} (ht : P.underlying t = some (.array m e)) (hn : P.cellsOf t = n) (hk : P.cellsOf e = k)
    (hf : OpensF P ((List.range m).map fun i => (e, i * k)) 0 n C wf) : OpensC P t n C wf := by
  intro H enc w fuel cs x h
  obtain ⟨xs, q, _, _, hl, hxl, hel⟩ := DataW.trod_array ht h
  obtain ⟨a, ha, hfa, N0, hN⟩ := hf H enc w q cs fun f hf => by
    obtain ⟨i, hi, rfl⟩ := List.mem_map.1 hf
    have hi' := List.mem_range.1 hi
    have h1 := hel i hi'
    rw [List.getElem?_eq_getElem (by omega), hk] at h1
    rw [hk]
    exact ⟨_, h1⟩
  refine ⟨by rw [hl, hn], a, ha, hfa, N0, fun N h => ?_⟩
  have := hN N h
  rwa [List.drop_zero, List.take_of_length_le (by omega)] at this
section
variable {H : Type} {enc : TypeId × Value → H} {w : World} {t : TypeId} {α : Type} [Enc α] {wf : α → Prop} {b0 : Nat} {v : Value} {d : DataW H} {ps : List MemPlace}
theorem open_agg (hs : (∃ fs, P.underlying t = some (.struct fs)) ∨ ∃ n e, P.underlying t = some (.array n e)) (he : Opens P t α wf) (hval : Value.okWide P w .any b0 t v) (h : DataW.Trod enc P w 0 (fun _ => true) true t v d ps) :
    ∃ a : α, wf a ∧ ∃ N0, ∀ N, N0 ≤ N → VR w (bigR N w) (.agg (Enc.cells a)) v := by
  have hv : ∃ cs, v = .agg cs := by
    unfold Value.okWide at hval
    rcases hs with ⟨fs, hs⟩ | ⟨n, e, hs⟩ <;> rw [hs] at hval <;> obtain ⟨cs, rfl, _⟩ := hval <;> exact ⟨cs, rfl⟩
  obtain ⟨cs, rfl⟩ := hv
  obtain ⟨fuel, hf⟩ := h
  obtain ⟨_, a, ha, hfl, N0, hN⟩ := he H enc w fuel _ _ hf
  refine ⟨a, ha, N0, fun N h => ?_⟩
  have h1 := hN N h
  exact .agg _ _ hfl (by simpa [Value.cells] using h1.1) fun j c v h2 h3 => h1.2 j c v h2 (by simpa [Value.cells] using h3)
theorem open_plain (hs : ∀ cs, v ≠ .agg cs) (he : Opens P t α wf) (h : DataW.Trod enc P w 0 (fun _ => true) true t v d ps) :
    ∃ a : α, wf a ∧ ∃ N0, ∀ N, N0 ≤ N → VRs w (bigR N w) (Enc.cells a) [v] := by
  obtain ⟨fuel, hf⟩ := h
  obtain ⟨_, a, ha, _, N0, hN⟩ := he H enc w fuel _ _ hf
  refine ⟨a, ha, N0, fun N h => ?_⟩
  have h1 := hN N h
  have : v.cells.toList = [v] := by
    cases v <;> first | rfl | exact absurd rfl (hs _)
  rwa [this] at h1
theorem VRs.head {R : Nat → Nat} {a : AV} (h : VRs w R [a] [v]) : VR w R a v := h.2 0 a v rfl rfl
theorem open_i64 (ht : P.underlying t = some (.int .i64)) (hval : Value.okWide P w .any b0 t v) (h : DataW.Trod enc P w 0 (fun _ => true) true t v d ps) :
    ∃ n : Int, (-9223372036854775808 ≤ n ∧ n ≤ 9223372036854775807) ∧ ∃ N0, ∀ N, N0 ≤ N → VR w (bigR N w) (.int .i64 n) v := by
  obtain ⟨n, rfl, _⟩ := open_int ht hval h
  obtain ⟨a, ha, N0, hN⟩ := open_plain (fun _ h => by cases h) (opens_int ht) h
  exact ⟨a, ha, N0, fun N h => (hN N h).head⟩
theorem open_byte (ht : P.underlying t = some (.int .u8)) (hval : Value.okWide P w .any b0 t v) (h : DataW.Trod enc P w 0 (fun _ => true) true t v d ps) :
    ∃ n : UInt8, True ∧ ∃ N0, ∀ N, N0 ≤ N → VR w (bigR N w) (.int .u8 n.toNat) v := by
  obtain ⟨n, rfl, _⟩ := open_int ht hval h
  obtain ⟨a, ha, N0, hN⟩ := open_plain (fun _ h => by cases h) (opens_u8 ht) h
  exact ⟨a, ha, N0, fun N h => (hN N h).head⟩
theorem open_w32 (ht : P.underlying t = some (.int .u32)) (hval : Value.okWide P w .any b0 t v) (h : DataW.Trod enc P w 0 (fun _ => true) true t v d ps) :
    ∃ n : UInt32, True ∧ ∃ N0, ∀ N, N0 ≤ N → VR w (bigR N w) (.int .u32 n.toNat) v := by
  obtain ⟨n, rfl, _⟩ := open_int ht hval h
  obtain ⟨a, ha, N0, hN⟩ := open_plain (fun _ h => by cases h) (opens_u32 ht) h
  exact ⟨a, ha, N0, fun N h => (hN N h).head⟩
theorem open_w64 (ht : P.underlying t = some (.int .u64)) (hval : Value.okWide P w .any b0 t v) (h : DataW.Trod enc P w 0 (fun _ => true) true t v d ps) :
    ∃ n : UInt64, True ∧ ∃ N0, ∀ N, N0 ≤ N → VR w (bigR N w) (.int .u64 n.toNat) v := by
  obtain ⟨n, rfl, _⟩ := open_int ht hval h
  obtain ⟨a, ha, N0, hN⟩ := open_plain (fun _ h => by cases h) (opens_u64 ht) h
  exact ⟨a, ha, N0, fun N h => (hN N h).head⟩
theorem open_truth (ht : P.underlying t = some .bool) (hval : Value.okWide P w .any b0 t v) (h : DataW.Trod enc P w 0 (fun _ => true) true t v d ps) :
    ∃ b : Bool, True ∧ ∃ N0, ∀ N, N0 ≤ N → VR w (bigR N w) (.bool b) v := by
  obtain ⟨n, rfl, _⟩ := open_bool ht hval h
  exact ⟨n, trivial, 0, fun N _ => .bool n⟩
theorem open_text (ht : P.underlying t = some .string) (hval : Value.okWide P w .any b0 t v) (h : DataW.Trod enc P w 0 (fun _ => true) true t v d ps) :
    ∃ s : Str, s.b.length ≤ maxLen ∧ ∃ N0, ∀ N, N0 ≤ N → VR w (bigR N w) (.str s.b) v := by
  obtain ⟨n, rfl, _⟩ := Go.ChangeMaps.open_string ht hval h
  obtain ⟨a, ha, N0, hN⟩ := open_plain (fun _ h => by cases h) (opens_str ht) h
  exact ⟨a, ha, N0, fun N h => (hN N h).head⟩
end
theorem args1 {w : World} {R : Nat → Nat} {a0 : AV} {v0 : Value} (h0 : VR w R a0 v0) : ArgsR w R [a0] #[v0] :=
  ⟨rfl, fun j a v h1 h2 => by match j, h1, h2 with | 0, h1, h2 => (cases h1; cases h2; exact h0)⟩
theorem args2 {w : World} {R : Nat → Nat} {a0 a1 : AV} {v0 v1 : Value} (h0 : VR w R a0 v0) (h1 : VR w R a1 v1) : ArgsR w R [a0, a1] #[v0, v1] :=
  ⟨rfl, fun j a v k1 k2 => by match j, k1, k2 with | 0, k1, k2 => (cases k1; cases k2; exact h0) | 1, k1, k2 => (cases k1; cases k2; exact h1)⟩
theorem args3 {w : World} {R : Nat → Nat} {a0 a1 a2 : AV} {v0 v1 v2 : Value} (h0 : VR w R a0 v0) (h1 : VR w R a1 v1) (h2 : VR w R a2 v2) : ArgsR w R [a0, a1, a2] #[v0, v1, v2] :=
  ⟨rfl, fun j a v k1 k2 => by match j, k1, k2 with | 0, k1, k2 => (cases k1; cases k2; exact h0) | 1, k1, k2 => (cases k1; cases k2; exact h1) | 2, k1, k2 => (cases k1; cases k2; exact h2)⟩
end
end Go.AB
end

section
namespace Go.AB
open Go
def fieldsAre (P : Program) (t : TypeId) (L : List (TypeId × Nat)) : Bool := match P.underlying t with
  | some (.struct fs) => fs.toList.map (fun f => (f.type, f.offset)) == L
  | _ => false
theorem opens_fields {P : Program} {t : TypeId} {L : List (TypeId × Nat)} {n : Nat} {α : Type} {C : α → List AV} {wf : α → Prop} (hs : fieldsAre P t L = true) (hn : P.cellsOf t = n) (hf : OpensF P L 0 n C wf) : OpensC P t n C wf := by
  unfold fieldsAre at hs
  split at hs
  · rename_i fs ht
    have he := eq_of_beq hs
    exact opens_struct ht hn (by rw [he]; exact hf)
  · cases hs
end Go.AB
end

section
namespace Go.AB
open Go Go.RowKit Go.ChangeShapes Go.WideShapes
def OpensB (K : Nat) (P : Program) (t : TypeId) {α : Type} (n : Nat) (C : α → List AV) (wf : α → Prop) : Prop :=
  ∀ (H : Type) (enc : TypeId × Value → H) (w : World) (fuel : Nat) (cs : List Value) (x : DataW H × List MemPlace), fuel ≤ K → DataW.trod enc P w 0 (fun _ => true) true fuel t cs = some x →
    cs.length = n ∧ ∃ a : α, wf a ∧ Fl (C a) ∧ ∃ N0, ∀ N, N0 ≤ N → VRs w (bigR N w) (C a) cs
def OpensFB (K : Nat) (P : Program) (fs : List (TypeId × Nat)) (o : Nat) {α : Type} (n : Nat) (C : α → List AV) (wf : α → Prop) : Prop :=
  ∀ (H : Type) (enc : TypeId × Value → H) (w : World) (fuel : Nat) (cs : List Value), fuel ≤ K → (∀ f ∈ fs, ∃ x, DataW.trod enc P w 0 (fun _ => true) true fuel f.1 ((cs.drop f.2).take (P.cellsOf f.1)) = some x) →
    ∃ a : α, wf a ∧ Fl (C a) ∧ ∃ N0, ∀ N, N0 ≤ N → VRs w (bigR N w) (C a) ((cs.drop o).take n)
section
variable {P : Program} {t : TypeId}
theorem OpensC.b {n : Nat} {α : Type} {C : α → List AV} {wf : α → Prop} (h : OpensC P t n C wf) (K : Nat) : OpensB K P t n C wf := fun H enc w fuel cs x _ hx => h H enc w fuel cs x hx
theorem OpensB.all {n : Nat} {α : Type} {C : α → List AV} {wf : α → Prop} (h : ∀ K, OpensB K P t n C wf) : OpensC P t n C wf := fun H enc w fuel cs x hx => h fuel H enc w fuel cs x (Nat.le_refl _) hx
theorem OpensB.le {n : Nat} {α : Type} {C : α → List AV} {wf : α → Prop} {K K' : Nat} (h : OpensB K P t n C wf) (hk : K' ≤ K) : OpensB K' P t n C wf := fun H enc w fuel cs x hf hx => h H enc w fuel cs x (Nat.le_trans hf hk) hx
theorem OpensB.zero {n : Nat} {α : Type} {C : α → List AV} {wf : α → Prop} : OpensB 0 P t n C wf := fun H enc w fuel cs x hf hx => by
  have : fuel = 0 := by omega
  subst this
  simp [DataW.trod] at hx
theorem OpensB.map {K n : Nat} {α β : Type} {C : α → List AV} {wf : α → Prop} (h : OpensB K P t n C wf) {C' : β → List AV} {wf' : β → Prop} (g : α → β) (hC : ∀ a, C' (g a) = C a) (hw : ∀ a, wf a → wf' (g a)) : OpensB K P t n C' wf' := by
  intro H enc w fuel cs x hf hx
  obtain ⟨h1, a, h2, h3, N0, h4⟩ := h H enc w fuel cs x hf hx
  exact ⟨h1, g a, hw a h2, by rw [hC]; exact h3, N0, by rw [hC]; exact h4⟩
theorem opensFB_nil {K o : Nat} : OpensFB K P [] o 0 (fun _ : Unit => []) fun _ => True :=
  fun _ _ _ _ _ _ _ => ⟨(), trivial, (fun _ h => absurd h List.not_mem_nil), 0, fun _ _ => ⟨by simp, fun j a v h => by simp at h⟩⟩
theorem opensFB_cons {K : Nat} {t : TypeId} {o n1 n2 : Nat} {fs : List (TypeId × Nat)} {α β : Type} {C1 : α → List AV} {C2 : β → List AV} {wf1 : α → Prop} {wf2 : β → Prop}
    (h1 : OpensB K P t n1 C1 wf1) (hc : P.cellsOf t = n1) (h2 : OpensFB K P fs (o + n1) n2 C2 wf2) : OpensFB K P ((t, o) :: fs) o (n1 + n2) (fun p : α × β => C1 p.1 ++ C2 p.2) fun p => wf1 p.1 ∧ wf2 p.2 := by
  intro H enc w fuel cs hk h
  obtain ⟨x, hx⟩ := h _ List.mem_cons_self
  obtain ⟨_, a, ha, hfa, N1, hN1⟩ := h1 H enc w fuel _ x hk hx
  obtain ⟨b, hb, hfb, N2, hN2⟩ := h2 H enc w fuel cs hk fun f hf => h f (List.mem_cons_of_mem _ hf)
  refine ⟨(a, b), ⟨ha, hb⟩, fun c hc => (List.mem_append.1 hc).elim (hfa c) (hfb c), max N1 N2, fun N hN => ?_⟩
  rw [List.take_add, List.drop_drop]
  refine VRs.append ?_ (hN2 N (by omega))
  rw [← hc]
  exact hN1 N (by omega)
theorem opens_fieldsB {K : Nat} {L : List (TypeId × Nat)} {n : Nat} {α : Type} {C : α → List AV} {wf : α → Prop} (hs : fieldsAre P t L = true) (hn : P.cellsOf t = n) (hf : OpensFB K P L 0 n C wf) : OpensB (K + 1) P t n C wf := by
  unfold fieldsAre at hs
  split at hs
  · rename_i fs ht
    have he := eq_of_beq hs
    subst he
    intro H enc w fuel cs x hk h
    obtain ⟨xs, m, rfl, _, hl, hxl, hel⟩ := DataW.trod_struct ht h
    obtain ⟨a, ha, hfa, N0, hN⟩ := hf H enc w m cs (by omega) fun f hf => by
      obtain ⟨g, hg, rfl⟩ := List.mem_map.1 hf
      obtain ⟨i, hi⟩ := List.getElem?_of_mem hg
      have h1 := hel i g (by rw [← Array.getElem?_toList]; exact hi)
      have hi' := (List.getElem?_eq_some_iff.1 hi).1
      rw [List.getElem?_eq_getElem (by simpa [hxl] using hi')] at h1
      exact ⟨_, h1⟩
    refine ⟨by rw [hl, hn], a, ha, hfa, N0, fun N h => ?_⟩
    have := hN N h
    rwa [List.drop_zero, List.take_of_length_le (by omega)] at this
  · cases hs
theorem slice_cell {w : World} {α : Type} [Enc α] {wf : α → Prop} {a : Addr} {len cap : Nat} (hl : len ≤ cap) (hm : cap ≤ maxLen)
    (each : ∀ i, i < len → ∃ x : α × List Value, wf x.1 ∧ Fl (Enc.cells x.1) ∧ w.cells? 0 (a.add (i * Enc.w α)) (Enc.w α) = some x.2 ∧ ∃ N0, ∀ N, N0 ≤ N → VRs w (bigR N w) (Enc.cells x.1) x.2) :
    ∃ l : List α, (l.length ≤ maxLen ∧ ∀ a ∈ l, wf a) ∧ Fl [.sl false (Enc.w α) l.length (flat l)] ∧ ∃ N0, ∀ N, N0 ≤ N → VRs w (bigR N w) [.sl false (Enc.w α) l.length (flat l)] [.slice (some a) len cap] := by
  have hw : 0 < Enc.w α := Enc.pos
  rcases Nat.eq_zero_or_pos len with h0 | h0
  · subst h0
    exact ⟨[], ⟨Nat.zero_le _, fun _ h => absurd h List.not_mem_nil⟩, fl_one rfl, 0, fun N _ => .one (.sle _ _ _)⟩
  obtain ⟨b, off, spot⟩ := a
  have hplain : spot = none ∧ b < w.heap.size := by
    obtain ⟨x, _, _, h2, _⟩ := each 0 h0
    obtain ⟨_, h3, h4⟩ := World.cells?_some h2
    have h5 := h4 0 hw
    have hxl : 0 < x.2.length := by omega
    rw [List.getElem?_eq_getElem hxl] at h5
    unfold World.cell? at h5
    have e1 : (((⟨b, off, spot⟩ : Addr).add (0 * Enc.w α)).add 0).block = b := by
      unfold Addr.add; repeat' split
      all_goals rfl
    have e2 : (((⟨b, off, spot⟩ : Addr).add (0 * Enc.w α)).add 0).spot.isSome = spot.isSome := by
      cases spot with
      | none => unfold Addr.add; repeat' split
                all_goals simp_all
      | some q => unfold Addr.add; repeat' split
                  all_goals simp_all
    rw [e1, e2] at h5
    split at h5
    · rename_i hh
      refine ⟨?_, (Array.getElem?_eq_some_iff.1 hh).1⟩
      cases spot with
      | none => rfl
      | some q => simp at h5
    · cases h5
  obtain ⟨rfl, hb⟩ := hplain
  obtain ⟨L, hL, hQ⟩ := choose_list len each
  have hx : ∀ i, i < len → ∃ x, L[i]? = some x := fun i hi => ⟨L[i]'(by omega), List.getElem?_eq_getElem (by omega)⟩
  obtain ⟨N0, hN0⟩ := common (Q := fun i N => ∀ x, L[i]? = some x → VRs w (bigR N w) (Enc.cells x.1) x.2) len fun i hi => by
    obtain ⟨x, hx⟩ := hx i hi
    obtain ⟨_, _, _, N0, h⟩ := hQ i x hx
    exact ⟨N0, fun N hN y hy => by rw [hx] at hy; cases hy; exact h N hN⟩
  have hwf : ∀ a ∈ L.map (·.1), wf a ∧ Fl (Enc.cells a) := by
    intro a ha
    obtain ⟨x, hx, rfl⟩ := List.mem_map.1 ha
    obtain ⟨i, hi⟩ := List.getElem?_of_mem hx
    have := hQ i x hi
    exact ⟨this.1, this.2.1⟩
  have hget : ∀ (j : Nat) (c : AV), (flat (L.map (·.1)))[j]? = some c → ∃ v, w.cell? ⟨b, off + j, none⟩ = some v ∧ ∀ N, N0 ≤ N → VR w (bigR N w) c v := by
    intro j c hj
    have hjl := (List.getElem?_eq_some_iff.1 hj).1
    rw [flat_len, List.length_map, hL] at hjl
    have hi : j / Enc.w α < len := Nat.div_lt_of_lt_mul (by rw [Nat.mul_comm]; exact hjl)
    have hr : j % Enc.w α < Enc.w α := Nat.mod_lt _ hw
    have hje : j = j / Enc.w α * Enc.w α + j % Enc.w α := by rw [Nat.mul_comm]; exact (Nat.div_add_mod _ _).symm
    obtain ⟨x, hx⟩ := hx _ hi
    have h1 := flat_get (L.map (·.1)) (i := j / Enc.w α) (a := x.1) (by rw [List.getElem?_map, hx]; rfl) hr
    rw [← hje, hj] at h1
    obtain ⟨_, _, h2, _⟩ := hQ _ x hx
    obtain ⟨_, h3, h4⟩ := World.cells?_some h2
    have h5 := h4 _ hr
    rw [add_plain, add_plain, Nat.add_assoc, ← hje] at h5
    refine ⟨x.2[j % Enc.w α]'(by omega), by rw [h5, List.getElem?_eq_getElem], fun N hN => ?_⟩
    exact (hN0 N hN _ hi x hx).2 _ _ _ h1.symm (List.getElem?_eq_getElem _)
  refine ⟨L.map (·.1), ⟨by rw [List.length_map, hL]; omega, fun a ha => (hwf a ha).1⟩, fl_one rfl, max N0 (off + len * Enc.w α), fun N hN => .one ?_⟩
  rw [List.length_map, hL]
  refine .sl false (Enc.w α) len _ b off cap (fun j => (w.cell? ⟨b, off + j, none⟩).getD default) ?_ ?_ ?_ hl ?_ ?_
  · intro c hcm
    unfold flat at hcm
    obtain ⟨l, hl, hcl⟩ := List.mem_flatten.1 hcm
    obtain ⟨a, ha, rfl⟩ := List.mem_map.1 hl
    exact (hwf a ha).2 c hcl
  · rw [flat_len, List.length_map, hL]
  · rw [flat_len, List.length_map, hL]
    unfold bigR
    rw [if_pos hb]; omega
  · intro j c hj
    obtain ⟨v, h1, _⟩ := hget j c hj
    rw [h1]; rfl
  · intro j c hj
    obtain ⟨v, h1, h2⟩ := hget j c hj
    simp only [h1, Option.getD_some]; exact h2 N (by omega)
theorem opens_sliceB {K : Nat} {e : TypeId} {α : Type} [Enc α] {wf : α → Prop} (ht : P.underlying t = some (.slice e)) (hc : P.cellsOf e = Enc.w α) (he : OpensB K P e (Enc.w α) (Enc.cells : α → List AV) wf) :
    OpensB (K + 1) P t 1 (fun l : List α => [.sl false (Enc.w α) l.length (flat l)]) fun l => l.length ≤ maxLen ∧ ∀ a ∈ l, wf a := by
  intro H enc w fuel cs x hk h
  rcases DataW.trod_slice ht h with ⟨rfl, _⟩ | ⟨a, len, cap, elems, rest, n, rfl, rfl, _, _, hl, hm, hlen, hel, _⟩
  · exact ⟨rfl, [], ⟨Nat.zero_le _, fun _ h => absurd h List.not_mem_nil⟩, fl_one rfl, 0, fun N _ => .one (.slnil _ _)⟩
  · refine ⟨rfl, slice_cell hl hm fun i hi => ?_⟩
    have h1 := hel i hi
    rw [hc, List.getElem?_eq_getElem (by omega), Option.bind_eq_some_iff] at h1
    obtain ⟨cs, h2, h3⟩ := h1
    obtain ⟨_, x, h4, h5, h6⟩ := he H enc w n cs _ (by omega) h3
    exact ⟨(x, cs), h4, h5, h2, h6⟩
theorem opens_sliceC {e : TypeId} {α : Type} [Enc α] {wf : α → Prop} (ht : P.underlying t = some (.slice e)) (hc : P.cellsOf e = Enc.w α) (he : Opens P e α wf) :
    OpensC P t 1 (fun l : List α => [.sl false (Enc.w α) l.length (flat l)]) fun l => l.length ≤ maxLen ∧ ∀ a ∈ l, wf a :=
  OpensB.all fun K => (opens_sliceB ht hc (OpensC.b he K)).le (Nat.le_succ K)
theorem fieldsAre_ex {L : List (TypeId × Nat)} (hs : fieldsAre P t L = true) : ∃ fs, P.underlying t = some (.struct fs) := by
  unfold fieldsAre at hs
  split at hs
  · rename_i fs ht; exact ⟨fs, ht⟩
  · cases hs
theorem okWide_slice {w : World} {e : TypeId} {b0 : Nat} {v : Value} (ht : P.underlying t = some (.slice e)) (hval : Value.okWide P w .any b0 t v) : ∀ cs, v ≠ .agg cs := by
  intro cs h
  subst h
  unfold Value.okWide Cell.okWide Cell.ok at hval
  rw [ht] at hval
  exact hval
theorem open_row {H : Type} {enc : TypeId × Value → H} {w : World} {e : TypeId} {α : Type} [Enc α] {wf : α → Prop} {v : Value} {d : DataW H} {ps : List MemPlace}
    (ht : P.underlying t = some (.slice e)) (hc : P.cellsOf e = Enc.w α) (he : Opens P e α wf) (h : DataW.Trod enc P w 0 (fun _ => true) true t v d ps) (hv : ∀ cs, v ≠ .agg cs) :
    ∃ l : List α, (l.length ≤ maxLen ∧ ∀ a ∈ l, wf a) ∧ ∃ N0, ∀ N, N0 ≤ N → VR w (bigR N w) (.sl false (Enc.w α) l.length (flat l)) v := by
  obtain ⟨fuel, hf⟩ := h
  obtain ⟨_, l, hl, _, N0, hN⟩ := opens_sliceC ht hc he H enc w fuel _ _ hf
  have hcells : v.cells.toList = [v] := by
    cases v <;> first | rfl | exact absurd rfl (hv _)
  refine ⟨l, hl, N0, fun N h => ?_⟩
  have := hN N h
  rw [hcells] at this
  exact this.head
end
end Go.AB
end

section
set_option linter.unusedSimpArgs false
namespace Go.AB
open Go Go.ChangeShapes Go.WideShapes Go.ChangeAt Go.RowKit Go.Proofs.YtemfmoalahmbkaaGreat Go.Proofs
theorem law19_FileNone_own : ownKnob Tryz.prog.godebug = none := by kernel_rfl
theorem law19_FileNone_laid : laidOutB Tryz.prog = true := by kernel_rfl
theorem law19_FileNone_ub : Tryz.prog.underlying 4 = some .bool := by kernel_rfl
set_option maxRecDepth 100000 in
theorem law19_FileNone_law {H : Type} {enc : TypeId × Value → H} {W : World} {base : Nat} {args : Array Value} {ds gs : List (DataW H)} {before : List MemPlace}
    (hval0 : ∀ (j : Nat) t v, Tryz.f7.params[j]? = some t → args[j]? = some v → Value.okWide Tryz.prog W .any base t v)
    (hW : DataW.Whole enc Tryz.prog Tryz.f7.params.toList Rows.fileNoneSpec.vars false W args.toList ds gs before) :
    Calls Tryz.prog 7 args W fun e w' => e = .returned (.bool true) ∧ Below W.heap.size W w' := by
  obtain ⟨p, q, hA0, hV, rfl, hfz, hnd⟩ := hW
  have hval := hval0
  have hA : DataW.TrodAll enc Tryz.prog W 0 (fun _ => true) true Tryz.f7.params.toList args.toList ds p := hA0
  have hp : Tryz.f7.params = #[3] := by kernel_rfl
  rw [hp] at hA hval
  obtain ⟨v0, d0, rfl, rfl, h0⟩ := trodAll_one hA
  obtain ⟨x0, w0, N0, k0⟩ := open_i64 (by kernel_rfl) (hval 0 3 v0 rfl rfl) h0
  refine law_calls' N0 ?_ (args1 (k0 _ (by omega)))
  exact (law19_FileNone_fe (law19_FileNone_true x0)).app rfl
end Go.AB
namespace Go.Proofs.YtemfmoalahmbkaaGreat
open Go.ChangeShapes Go.WideShapes Go.ChangeAt Go.RowKit
set_option maxRecDepth 100000 in
theorem fileNone_lifted (os : Os) (started : os.Started) (H : Type) (enc : TypeId × Value → H) :
    ReturnsInHanded {} Tryz.checked os 7 .any (Rows.fileNoneSpec.pre6 enc Tryz.prog Tryz.f7 Rows.fileNoneRow.domain false) (Rows.fileNoneSpec.post enc Tryz.prog Tryz.f7 false true false false) := by
  refine returnsInHanded_of_change (C := Tryz.checked) AB.law19_FileNone_own started (by kernel_rfl) Tryz.func7
    (ChangeSpec.witness6 (enc := enc) (C := Tryz.checked) false ⟨#[], #[.int .i64 0], []⟩ 8 (by kernel_rfl) (by kernel_rfl) (by kernel_rfl) (by kernel_rfl)) ?_
  intro W base args ds gs before hval hW _ _
  exact AB.law_post rfl (by kernel_rfl) AB.law19_FileNone_ub AB.law19_FileNone_laid (of_decide_eq_true (by kernel_rfl)) (fun ds h => by
    match ds, h with
    | [_], _ => rfl) hW (AB.law19_FileNone_law hval hW)
theorem and_t {a b : Bool} (h : a = true) (k : b = true) : (a && b) = true := by rw [h, k]; rfl
theorem fileNone_k0 : (Rows.fileNoneRow.wf (OpenSpec.ofChange Rows.fileNoneSpec)) = true := by kernel_rfl
theorem fileNone_k1 : (laidOutB Tryz.checked.prog) = true := by kernel_rfl
theorem fileNone_k2 : (mapsRowed Tryz.checked.prog) = true := by kernel_rfl
theorem fileNone_k3 : (Tryz.f7.params.all (Tryz.checked.prog.readableRec ·)) = true := by kernel_rfl
theorem fileNone_k4 : (namedTie Tryz.checked.prog Rows.fileNoneRow.named Rows.fileNoneSpec.vars) = true := by kernel_rfl
theorem fileNone_k5 : ((Rows.fileNoneRow.stops == [])) = true := by kernel_rfl
theorem fileNone_k6 : ((Tryz.checked.prog.stops == [])) = true := by kernel_rfl
theorem fileNone_k7 : ((Rows.fileNoneRow.knobs == [])) = true := by kernel_rfl
theorem fileNone_k8 : ((Tryz.checked.prog.stopKnobs == [])) = true := by kernel_rfl
theorem fileNone_k9 : ((Rows.fileNoneRow.inPlace == Tryz.checked.prog.inPlace 7)) = true := by kernel_rfl
theorem fileNone_k10 : ((Rows.fileNoneRow.unfollowed == Tryz.checked.prog.unfollowed 7)) = true := by kernel_rfl
theorem fileNone_k11 : ((Rows.fileNoneRow.recurses == Tryz.checked.prog.recurses 7)) = true := by kernel_rfl
theorem fileNone_k12 : ((Rows.fileNoneRow.named == Tryz.checked.prog.varsNamed 7)) = true := by kernel_rfl
theorem fileNone_k13 : ((Rows.fileNoneRow.maps == (Tryz.f7.params.toList ++ Rows.fileNoneSpec.plain.varTypes Tryz.checked.prog).any (Tryz.checked.prog.mapsRec ·))) = true := by kernel_rfl
theorem fileNone_k14 : ((Rows.fileNoneRow.ifaces == (Tryz.f7.params.toList ++ Rows.fileNoneSpec.plain.varTypes Tryz.checked.prog).any (Tryz.checked.prog.ifacesRec ·))) = true := by kernel_rfl
theorem fileNone_k15 : ((Rows.fileNoneRow.mapsOut == Tryz.checked.prog.mapsAmong Tryz.f7.resultTypes.toList)) = true := by kernel_rfl
theorem fileNone_k16 : ((Rows.fileNoneRow.loops == (Tryz.f7.params.toList ++ Rows.fileNoneSpec.plain.varTypes Tryz.checked.prog).any (Tryz.checked.prog.loopsFrom ·))) = true := by kernel_rfl
theorem fileNone_k17 : ((Rows.fileNoneRow.wideKeys == (Tryz.f7.params.toList ++ Rows.fileNoneSpec.plain.varTypes Tryz.checked.prog ++ Tryz.f7.resultTypes.toList).any (Tryz.checked.prog.wideKeysFrom ·))) = true := by kernel_rfl
theorem fileNone_k18 : (Rows.fileNoneSpec.vars.all (Tryz.checked.prog.varReadable ·)) = true := by kernel_rfl
theorem fileNone_k19 : (Tryz.f7.resultTypes.all (fun t => Tryz.checked.prog.readableRec t && decide (t < Tryz.checked.prog.types.size))) = true := by kernel_rfl
theorem fileNone_k20 : ((Rows.fileNoneRow.ifacesOut == Tryz.f7.resultTypes.toList.any (Tryz.checked.prog.ifacesRec ·))) = true := by kernel_rfl
theorem fileNone_k21 : ((Rows.fileNoneRow.loopsOut == Tryz.f7.resultTypes.toList.any (Tryz.checked.prog.loopsFrom ·))) = true := by kernel_rfl
theorem fileNone_k22 : ((Rows.fileNoneRow.plainKeys == Tryz.checked.prog.plainKeys)) = true := by kernel_rfl
theorem fileNone_k23 : (Rows.fileNoneRow.shortTexts.isNone) = true := by kernel_rfl
theorem fileNone_k24 : (Tryz.checked.prog.stopsHeard) = true := by kernel_rfl
theorem fileNone_k25 : (Tryz.checked.prog.mayEnter) = true := by kernel_rfl
theorem fileNone_k26 : ((Rows.fileNoneRow.lifted == Tryz.checked.prog.liftsFinal)) = true := by kernel_rfl
theorem fileNone_k27 : ((Tryz.checked.prog.make == some Rows.fileNoneRow.make)) = true := by kernel_rfl
theorem fileNone_k28 : ((Rows.fileNoneRow.kinds == (if Rows.fileNoneRow.domain.isEmpty then [] else Tryz.f7.params.toList.map fun t => match Tryz.checked.prog.underlying t with | some (.int k) => some k | _ => none))) = true := by kernel_rfl
theorem fileNone_k29 : ((Rows.fileNoneRow.pinned == Rows.fileNoneRow.pinnedBy)) = true := by kernel_rfl
theorem fileNone_k30 : ((Rows.fileNoneRow.veiled == (Tryz.f7.params.toList ++ Rows.fileNoneSpec.plain.varTypes Tryz.checked.prog ++ Tryz.f7.resultTypes.toList).any (Tryz.checked.prog.veiledRec ·))) = true := by kernel_rfl
theorem fileNone_k31 : (Rows.fileNoneRow.veiledFits Tryz.checked.prog Tryz.f7.params.toList (Tryz.f7.params.toList ++ Rows.fileNoneSpec.plain.varTypes Tryz.checked.prog ++ Tryz.f7.resultTypes.toList)) = true := by kernel_rfl
set_option maxRecDepth 100000 in
theorem fileNone_closed : joinedFacts Tryz.checked.prog 7 Tryz.f7 Rows.fileNoneSpec Rows.fileNoneRow = true := (and_t (and_t (and_t (and_t (and_t (and_t (and_t (and_t (and_t (and_t (and_t (and_t (and_t (and_t (and_t (and_t (and_t (and_t (and_t (and_t (and_t (and_t (and_t (and_t (and_t (and_t (and_t (and_t (and_t (and_t (and_t fileNone_k0 fileNone_k1) fileNone_k2) fileNone_k3) fileNone_k4) fileNone_k5) fileNone_k6) fileNone_k7) fileNone_k8) fileNone_k9) fileNone_k10) fileNone_k11) fileNone_k12) fileNone_k13) fileNone_k14) fileNone_k15) fileNone_k16) fileNone_k17) fileNone_k18) fileNone_k19) fileNone_k20) fileNone_k21) fileNone_k22) fileNone_k23) fileNone_k24) fileNone_k25) fileNone_k26) fileNone_k27) fileNone_k28) fileNone_k29) fileNone_k30) fileNone_k31)
theorem fileNone_holds : Rows.FileNoneSaid :=
  OpenClaim.holds_of_wide 7 Tryz.f7 rfl rfl rfl rfl rfl rfl rfl ⟨rfl, rfl, rfl, rfl, rfl⟩ rfl rfl rfl rfl rfl (by kernel_rfl) Tryz.func7 fileNone_closed
    (of_decide_eq_true (by kernel_rfl)) (by unfold Func.isWrapper; first | (rw [if_pos (by decide +kernel)]; kernel_rfl) | (rw [if_neg (by decide +kernel)]; exact ⟨rfl, rfl⟩))
    (fun os started H enc _ => fileNone_lifted os started H enc)
end Go.Proofs.YtemfmoalahmbkaaGreat
end
