/- The law LzBack returns true for every input; each argument reads behind the call as it read before. No condition. -/
import Derived.Test.YtbinmjafmcaehaaLz3
import Derived.Test.YtbinmjafmcaehaaLz10
import Derived.Test.YtbinmjafmcaehaaOpen3
namespace Go.AB
open Go Go.ChangeShapes Go.WideShapes Go.ChangeAt Go.RowKit Go.Proofs.Ytbinmjafmcaehaa Go.Proofs

theorem law06_LzBack_law {H : Type} {enc : TypeId × Value → H} {W : World} {base : Nat} {args : Array Value} {ds gs : List (DataW H)} {before : List MemPlace}
    (hval0 : ∀ (j : Nat) t v, Try.f4.params[j]? = some t → args[j]? = some v → Value.okWide Try.prog W .any base t v)
    (hW : DataW.Whole enc Try.prog Try.f4.params.toList Rows.lzBackSpec.vars false W args.toList ds gs before) :
    Calls Try.prog 4 args W fun e w' => e = .returned (.bool true) ∧ Below W.heap.size W w' := by
  obtain ⟨p, q, hA0, hV, rfl, hfz, hnd⟩ := hW
  have hval := hval0
  have hA : DataW.TrodAll enc Try.prog W 0 (fun _ => true) true Try.f4.params.toList args.toList ds p := hA0
  have hp : Try.f4.params = #[24] := by kernel_rfl
  rw [hp] at hA hval
  obtain ⟨v0, d0, rfl, rfl, h0⟩ := trodAll_one hA
  obtain ⟨x0, l0, w0, N0, k0⟩ := open_slice u24 (by kernel_rfl) (opens_u8 u5) (hval 0 24 v0 rfl rfl) h0
  refine law_calls' N0 ?_ (args1 (k0 _ (by omega)))
  exact (law06_LzBack_fe (law06_LzBack_true x0)).app rfl

theorem law06_LzFewer_law {H : Type} {enc : TypeId × Value → H} {W : World} {base : Nat} {args : Array Value} {ds gs : List (DataW H)} {before : List MemPlace}
    (hval0 : ∀ (j : Nat) t v, Try.f6.params[j]? = some t → args[j]? = some v → Value.okWide Try.prog W .any base t v)
    (hW : DataW.Whole enc Try.prog Try.f6.params.toList Rows.lzFewerSpec.vars false W args.toList ds gs before) :
    Calls Try.prog 6 args W fun e w' => e = .returned (.bool true) ∧ Below W.heap.size W w' := by
  obtain ⟨p, q, hA0, hV, rfl, hfz, hnd⟩ := hW
  have hval := hval0
  have hA : DataW.TrodAll enc Try.prog W 0 (fun _ => true) true Try.f6.params.toList args.toList ds p := hA0
  have hp : Try.f6.params = #[24, 24, 5] := by kernel_rfl
  rw [hp] at hA hval
  obtain ⟨v0, v1, v2, d0, d1, d2, p0, p1, p2, rfl, rfl, rfl, h0, h1, h2⟩ := trodAll_three hA
  obtain ⟨x0, l0, w0, N0, k0⟩ := open_slice u24 (by kernel_rfl) (opens_u8 u5) (hval 0 24 v0 rfl rfl) h0
  obtain ⟨x1, l1, w1, N1, k1⟩ := open_slice u24 (by kernel_rfl) (opens_u8 u5) (hval 1 24 v1 rfl rfl) h1
  obtain ⟨x2, w2, N2, k2⟩ := open_byte u5 (hval 2 5 v2 rfl rfl) h2
  refine law_calls' (max N0 (max N1 N2)) ?_ (args3 (k0 _ (by omega)) (k1 _ (by omega)) (k2 _ (by omega)))
  exact (law06_LzFewer_fe (law06_LzFewer_true x0 x1 x2)).app rfl

end Go.AB
namespace Go.Proofs.Ytbinmjafmcaehaa
open Go.ChangeShapes Go.WideShapes Go.ChangeAt Go.RowKit
set_option maxRecDepth 100000 in
theorem lzBack_lifted (os : Os) (started : os.Started) (H : Type) (enc : TypeId × Value → H) :
    ReturnsInHanded {} Try.checked os 4 .any (Rows.lzBackSpec.pre6 enc Try.prog Try.f4 Rows.lzBackRow.domain false) (Rows.lzBackSpec.post enc Try.prog Try.f4 false true false false) := by
  refine returnsInHanded_of_change (C := Try.checked) AB.lz_own started (by kernel_rfl) Try.func4
    (ChangeSpec.witness6 (enc := enc) (C := Try.checked) false ⟨#[], #[.slice none 0 0], []⟩ 8 (by kernel_rfl) (by kernel_rfl) (by kernel_rfl) (by kernel_rfl)) ?_
  intro W base args ds gs before hval hW _ _
  exact AB.law_post rfl (by kernel_rfl) AB.u4 AB.lz_laid (of_decide_eq_true (by kernel_rfl)) (fun ds h => by
    match ds, h with
    | [_], _ => rfl) hW (AB.law06_LzBack_law hval hW)
theorem lzBack_holds : Rows.LzBackSaid :=
  OpenClaim.holds_of_wide 4 Try.f4 rfl rfl rfl rfl rfl rfl rfl ⟨rfl, rfl, rfl, rfl, rfl⟩ rfl rfl rfl rfl rfl (by kernel_rfl) Try.func4 (by kernel_rfl)
    (of_decide_eq_true (by kernel_rfl)) (by unfold Func.isWrapper; first | (rw [if_pos (by decide +kernel)]; kernel_rfl) | (rw [if_neg (by decide +kernel)]; exact ⟨rfl, rfl⟩))
    (fun os started H enc _ => lzBack_lifted os started H enc)
set_option maxRecDepth 100000 in
theorem lzFewer_lifted (os : Os) (started : os.Started) (H : Type) (enc : TypeId × Value → H) :
    ReturnsInHanded {} Try.checked os 6 .any (Rows.lzFewerSpec.pre6 enc Try.prog Try.f6 Rows.lzFewerRow.domain false) (Rows.lzFewerSpec.post enc Try.prog Try.f6 false true false false) := by
  refine returnsInHanded_of_change (C := Try.checked) AB.lz_own started (by kernel_rfl) Try.func6
    (ChangeSpec.witness6 (enc := enc) (C := Try.checked) false ⟨#[], #[.slice none 0 0, .slice none 0 0, .int .u8 0], []⟩ 8 (by kernel_rfl) (by kernel_rfl) (by kernel_rfl) (by kernel_rfl)) ?_
  intro W base args ds gs before hval hW _ _
  exact AB.law_post rfl (by kernel_rfl) AB.u4 AB.lz_laid (of_decide_eq_true (by kernel_rfl)) (fun ds h => by
    match ds, h with
    | [_, _, _], _ => rfl) hW (AB.law06_LzFewer_law hval hW)
theorem lzFewer_holds : Rows.LzFewerSaid :=
  OpenClaim.holds_of_wide 6 Try.f6 rfl rfl rfl rfl rfl rfl rfl ⟨rfl, rfl, rfl, rfl, rfl⟩ rfl rfl rfl rfl rfl (by kernel_rfl) Try.func6 (by kernel_rfl)
    (of_decide_eq_true (by kernel_rfl)) (by unfold Func.isWrapper; first | (rw [if_pos (by decide +kernel)]; kernel_rfl) | (rw [if_neg (by decide +kernel)]; exact ⟨rfl, rfl⟩))
    (fun os started H enc _ => lzFewer_lifted os started H enc)
end Go.Proofs.Ytbinmjafmcaehaa
