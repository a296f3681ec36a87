/- Texts that come in. Generic in the program. -/
import Derived.Test.YthdfbmdfmfndhaaDoorSlJ
namespace Go.SL
set_option linter.unusedVariables false
set_option linter.unusedSimpArgs false
set_option linter.unusedSectionVars false
theorem arg_str {H : Type} {enc : TypeId × Value → H} {P : Program} {w : World} {base b0 : Nat} {spare : Nat → Bool} {held : Bool} {r : Reach} {t : TypeId} {v : Value} {d : DataW H} {ps : List MemPlace}
    (ht : P.underlying t = some .string) (hv : Value.okWide P w r b0 t v) (h : DataW.Trod enc P w base spare held t v d ps) : ∃ s : List UInt8, v = strV s ∧ s.length ≤ 9223372036854775807 := by
  obtain ⟨s0, rfl⟩ := WideShapes.okWide_string ht hv
  obtain ⟨s, e, h1⟩ := (RdT.of h).str ht
  refine ⟨s, ?_, h1⟩
  simpa [Value.cells] using e
end Go.SL
