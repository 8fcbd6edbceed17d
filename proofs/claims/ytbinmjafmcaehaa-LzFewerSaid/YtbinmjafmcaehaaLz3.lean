/- The law LzMatches returns true for every input; each argument reads behind the call as it read before. No condition. -/
import Derived.Test.YtbinmjafmcaehaaLz2
import Derived.Test.YtbinmjafmcaehaaOpen2
import Derived.Test.YtbinmjafmcaehaaRows
import Derived.JoinedCond
namespace Go.AB
open Go Go.ChangeShapes Go.WideShapes Go.ChangeAt Go.RowKit Go.Proofs.Ytbinmjafmcaehaa Go.Proofs

theorem lz_own : ownKnob Try.prog.godebug = none := by kernel_rfl
theorem lz_laid : laidOutB Try.prog = true := by kernel_rfl
theorem u3 : Try.prog.underlying 3 = some (.int .i64) := by kernel_rfl
theorem u4 : Try.prog.underlying 4 = some .bool := by kernel_rfl
theorem u5 : Try.prog.underlying 5 = some (.int .u8) := by kernel_rfl
theorem u24 : Try.prog.underlying 24 = some (.slice 5) := by kernel_rfl
theorem u37 : Try.prog.underlying 37 = some (.array 3 3) := by kernel_rfl
def i64wf (n : Int) : Prop := -9223372036854775808 ≤ n ∧ n ≤ 9223372036854775807
theorem opens37 : Opens Try.prog 37 arr3_Int fun x => i64wf x.a0 ∧ i64wf x.a1 ∧ i64wf x.a2 :=
  OpensC.map (opens_array u37 (by kernel_rfl) (show Try.prog.cellsOf 3 = 1 by kernel_rfl) (opensF_cons (opens_int u3) (by kernel_rfl) (opensF_cons (opens_int u3) (by kernel_rfl) (opensF_cons (opens_int u3) (by kernel_rfl) opensF_nil))))
    (fun p => ⟨p.1, p.2.1, p.2.2.1⟩) (fun _ => rfl) fun _ h => ⟨h.1, h.2.1, h.2.2.1⟩

theorem law06_LzMatches_law {H : Type} {enc : TypeId × Value → H} {W : World} {base : Nat} {args : Array Value} {ds gs : List (DataW H)} {before : List MemPlace}
    (hval0 : ∀ (j : Nat) t v, Try.f5.params[j]? = some t → args[j]? = some v → Value.okWide Try.prog W .any base t v)
    (hW : DataW.Whole enc Try.prog Try.f5.params.toList Rows.lzMatchesSpec.vars false W args.toList ds gs before) :
    Calls Try.prog 5 args W fun e w' => e = .returned (.bool true) ∧ Below W.heap.size W w' := by
  obtain ⟨p, q, hA0, hV, rfl, hfz, hnd⟩ := hW
  have hval := hval0
  have hA : DataW.TrodAll enc Try.prog W 0 (fun _ => true) true Try.f5.params.toList args.toList ds p := hA0
  have hp : Try.f5.params = #[24, 37] := by kernel_rfl
  rw [hp] at hA hval
  obtain ⟨v0, v1, d0, d1, p0, p1, rfl, rfl, rfl, h0, h1⟩ := trodAll_two hA
  obtain ⟨x0, l0, w0, N0, k0⟩ := open_slice u24 (by kernel_rfl) (opens_u8 u5) (hval 0 24 v0 rfl rfl) h0
  obtain ⟨x1, w1, N1, k1⟩ := open_agg (.inr ⟨_, _, u37⟩) opens37 (hval 1 37 v1 rfl rfl) h1
  refine law_calls' (max N0 N1) ?_ (args2 (k0 _ (by omega)) (k1 _ (by omega)))
  exact (law06_LzMatches_fe (law06_LzMatches_true x0 x1 w1.2.2.2)).app rfl

end Go.AB
namespace Go.Proofs.Ytbinmjafmcaehaa
open Go.ChangeShapes Go.WideShapes Go.ChangeAt Go.RowKit
set_option maxRecDepth 100000 in
theorem lzMatches_lifted (os : Os) (started : os.Started) (H : Type) (enc : TypeId × Value → H) :
    ReturnsInHanded {} Try.checked os 5 .any (Rows.lzMatchesSpec.pre6 enc Try.prog Try.f5 Rows.lzMatchesRow.domain false) (Rows.lzMatchesSpec.post enc Try.prog Try.f5 false true false false) := by
  refine returnsInHanded_of_change (C := Try.checked) AB.lz_own started (by kernel_rfl) Try.func5
    (ChangeSpec.witness6 (enc := enc) (C := Try.checked) false ⟨#[], #[.slice none 0 0, .agg #[.int .i64 0, .int .i64 0, .int .i64 0]], []⟩ 8 (by kernel_rfl) (by kernel_rfl) (by kernel_rfl) (by kernel_rfl)) ?_
  intro W base args ds gs before hval hW _ _
  exact AB.law_post rfl (by kernel_rfl) AB.u4 AB.lz_laid (of_decide_eq_true (by kernel_rfl)) (fun ds h => by
    match ds, h with
    | [_, _], _ => rfl) hW (AB.law06_LzMatches_law hval hW)

theorem lzMatches_holds : Rows.LzMatchesSaid :=
  OpenClaim.holds_of_wide 5 Try.f5 rfl rfl rfl rfl rfl rfl rfl ⟨rfl, rfl, rfl, rfl, rfl⟩ rfl rfl rfl rfl rfl (by kernel_rfl) Try.func5 (by kernel_rfl)
    (of_decide_eq_true (by kernel_rfl)) (by unfold Func.isWrapper; first | (rw [if_pos (by decide +kernel)]; kernel_rfl) | (rw [if_neg (by decide +kernel)]; exact ⟨rfl, rfl⟩))
    (fun os started H enc _ => lzMatches_lifted os started H enc)
end Go.Proofs.Ytbinmjafmcaehaa
