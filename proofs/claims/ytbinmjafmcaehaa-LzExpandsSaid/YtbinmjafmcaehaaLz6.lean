/- The law LzExpands returns true for every input; each argument reads behind the call as it read before. No condition. -/
import Derived.Test.YtbinmjafmcaehaaLz3
import Derived.Test.YtbinmjafmcaehaaLz5
import Derived.Test.YtbinmjafmcaehaaOpen3
namespace Go.AB
open Go Go.ChangeShapes Go.WideShapes Go.ChangeAt Go.RowKit Go.Proofs.Ytbinmjafmcaehaa Go.Proofs

theorem u22 : Try.prog.underlying 22 = some (.slice 44) := by kernel_rfl
theorem opens44 : Opens Try.prog 44 ref06_Token fun x => i64wf x.Length ∧ i64wf x.Far :=
  OpensC.map (opens_fields (L := [(5, 0), (3, 1), (3, 2)]) (by kernel_rfl) (by kernel_rfl) (opensF_cons (opens_u8 u5) (by kernel_rfl) (opensF_cons (opens_int u3) (by kernel_rfl) (opensF_cons (opens_int u3) (by kernel_rfl) opensF_nil))))
    (fun p => ⟨p.1, p.2.1, p.2.2.1⟩) (fun _ => rfl) fun _ h => ⟨h.2.1, h.2.2.1⟩

theorem law06_LzExpands_law {H : Type} {enc : TypeId × Value → H} {W : World} {base : Nat} {args : Array Value} {ds gs : List (DataW H)} {before : List MemPlace}
    (hval0 : ∀ (j : Nat) t v, Try.f3.params[j]? = some t → args[j]? = some v → Value.okWide Try.prog W .any base t v)
    (hW : DataW.Whole enc Try.prog Try.f3.params.toList Rows.lzExpandsSpec.vars false W args.toList ds gs before) :
    Calls Try.prog 3 args W fun e w' => e = .returned (.bool true) ∧ Below W.heap.size W w' := by
  obtain ⟨p, q, hA0, hV, rfl, hfz, hnd⟩ := hW
  have hval := hval0
  have hA : DataW.TrodAll enc Try.prog W 0 (fun _ => true) true Try.f3.params.toList args.toList ds p := hA0
  have hp : Try.f3.params = #[22, 3] := by kernel_rfl
  rw [hp] at hA hval
  obtain ⟨v0, v1, d0, d1, p0, p1, rfl, rfl, rfl, h0, h1⟩ := trodAll_two hA
  obtain ⟨x0, l0, w0, N0, k0⟩ := open_slice u22 (by kernel_rfl) opens44 (hval 0 22 v0 rfl rfl) h0
  obtain ⟨x1, w1, N1, k1⟩ := open_i64 u3 (hval 1 3 v1 rfl rfl) h1
  refine law_calls' (max N0 N1) ?_ (args2 (k0 _ (by omega)) (k1 _ (by omega)))
  exact (law06_LzExpands_fe (law06_LzExpands_true x0 x1)).app rfl

end Go.AB
namespace Go.Proofs.Ytbinmjafmcaehaa
open Go.ChangeShapes Go.WideShapes Go.ChangeAt Go.RowKit
set_option maxRecDepth 100000 in
theorem lzExpands_lifted (os : Os) (started : os.Started) (H : Type) (enc : TypeId × Value → H) :
    ReturnsInHanded {} Try.checked os 3 .any (Rows.lzExpandsSpec.pre6 enc Try.prog Try.f3 Rows.lzExpandsRow.domain false) (Rows.lzExpandsSpec.post enc Try.prog Try.f3 false true false false) := by
  refine returnsInHanded_of_change (C := Try.checked) AB.lz_own started (by kernel_rfl) Try.func3
    (ChangeSpec.witness6 (enc := enc) (C := Try.checked) false ⟨#[], #[.slice none 0 0, .int .i64 0], []⟩ 8 (by kernel_rfl) (by kernel_rfl) (by kernel_rfl) (by kernel_rfl)) ?_
  intro W base args ds gs before hval hW _ _
  exact AB.law_post rfl (by kernel_rfl) AB.u4 AB.lz_laid (of_decide_eq_true (by kernel_rfl)) (fun ds h => by
    match ds, h with
    | [_, _], _ => rfl) hW (AB.law06_LzExpands_law hval hW)

theorem lzExpands_holds : Rows.LzExpandsSaid :=
  OpenClaim.holds_of_wide 3 Try.f3 rfl rfl rfl rfl rfl rfl rfl ⟨rfl, rfl, rfl, rfl, rfl⟩ rfl rfl rfl rfl rfl (by kernel_rfl) Try.func3 (by kernel_rfl)
    (of_decide_eq_true (by kernel_rfl)) (by unfold Func.isWrapper; first | (rw [if_pos (by decide +kernel)]; kernel_rfl) | (rw [if_neg (by decide +kernel)]; exact ⟨rfl, rfl⟩))
    (fun os started H enc _ => lzExpands_lifted os started H enc)
end Go.Proofs.Ytbinmjafmcaehaa
