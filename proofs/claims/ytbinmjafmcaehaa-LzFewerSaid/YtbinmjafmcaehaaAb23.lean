/- The abstract layer, part 23: from a contract to a law's call. -/
import Derived.Test.YtbinmjafmcaehaaAb18
import Derived.ProofKit
namespace Go.AB
open Go Go.RowKit

/-- At a law's start: nothing that is there may change. -/
def rowsOf (w : World) (b : Nat) : Nat := match w.heap[b]? with
  | some (.cells c _ _) => c.size
  | _ => 0
def noStore : Store := fun _ => none

section
variable {P : Program} {w w' : World}

theorem law_calls {f : FuncId} {args : List AV} {vs : Array Value} (hf : FN P f args noStore fun rs _ => rs = [.bool true]) (ha : ArgsR w (rowsOf w) args vs) :
    Calls P f vs w fun e w' => e = .returned (.bool true) ∧ Below w.heap.size w w' := by
  refine (hf ⟨rowsOf w, fun _ => .none⟩ w vs ⟨fun _ _ => rfl, fun b hb => ?_⟩ (fun b => .inl rfl) (fun b o h => by cases h) ha).mono fun e w' ⟨v, rs, s', G', he, hq, _, _, hr, hp⟩ => ?_
  · show rowsOf w b = 0
    unfold rowsOf
    rw [Array.getElem?_eq_none hb]
  · subst hq
    refine ⟨?_, ⟨hp.os, hp.tape, hp.output, hp.size, fun b hb => hp.frame b hb (.inr rfl)⟩⟩
    rw [he]
    have := VR.inv_bool hr.1
    rw [this]

end
end Go.AB
