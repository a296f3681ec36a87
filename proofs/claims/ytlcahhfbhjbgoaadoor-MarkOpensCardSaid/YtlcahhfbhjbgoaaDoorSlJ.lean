/- A parameter that is a struct, read as its cells. -/
import Derived.Test.YtlcahhfbhjbgoaaDoorSlH
namespace Go.SL
set_option linter.unusedVariables false
set_option maxRecDepth 100000

theorem arg_struct {H : Type} {enc : TypeId × Value → H} {P : Program} {w : World} {base b0 : Nat} {spare : Nat → Bool} {held : Bool} {r : Reach} {t : TypeId} {v : Value} {d : DataW H} {ps : List MemPlace} {fs : Array Field}
    (ht : P.underlying t = some (.struct fs)) (hv : Value.okWide P w r b0 t v) (h : DataW.Trod enc P w base spare held t v d ps) : ∃ xs : List Value, v = .agg xs.toArray ∧ xs.length = P.cellsOf t ∧ RdT P w t xs := by
  obtain ⟨cs, rfl, hs⟩ := WideShapes.okWide_struct ht hv
  exact ⟨cs.toList, by simp, by simpa using hs, by simpa [Value.cells] using RdT.of h⟩
theorem RdT.u64 {P : Program} {w : World} {t : TypeId} {xs : List Value} (ht : P.underlying t = some (.int .u64)) (h : RdT P w t xs) : ∃ n : Nat, xs = [.int .u64 n] ∧ n < 18446744073709551616 := by
  obtain ⟨n, rfl, h1, h2⟩ := h.int ht
  have e0 : IntKind.min .u64 = 0 := by decide
  have e1 : IntKind.max .u64 = 18446744073709551615 := by decide
  exact ⟨n.toNat, by rw [Int.toNat_of_nonneg (by omega)], by omega⟩
theorem arg_byte {H : Type} {enc : TypeId × Value → H} {P : Program} {w : World} {base b0 : Nat} {spare : Nat → Bool} {held : Bool} {r : Reach} {t : TypeId} {v : Value} {d : DataW H} {ps : List MemPlace}
    (ht : P.underlying t = some (.int .u8)) (hv : Value.okWide P w r b0 t v) (h : DataW.Trod enc P w base spare held t v d ps) : ∃ c : UInt8, v = u8V c := by
  obtain ⟨n, rfl⟩ := WideShapes.okWide_int ht hv
  obtain ⟨c, e⟩ := RdT.byte ht (RdT.of h)
  have q : [Value.int .u8 n] = [u8V c] := by simpa [Value.cells] using e
  injection q with q
  exact ⟨c, q⟩
end Go.SL
