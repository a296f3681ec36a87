/- A parameter that is a struct, read as its cells. -/
import Derived.Test.YtcjpiceklicmoaaGreatDoorSlH
namespace Go.SL
set_option linter.unusedVariables false
set_option linter.unusedSimpArgs false
set_option maxRecDepth 100000

theorem arg_struct {H : Type} {enc : TypeId × Value → H} {P : Program} {w : World} {base b0 : Nat} {spare : Nat → Bool} {held : Bool} {r : Reach} {t : TypeId} {v : Value} {d : DataW H} {ps : List MemPlace} {fs : Array Field}
    (ht : P.underlying t = some (.struct fs)) (hv : Value.okWide P w r b0 t v) (h : DataW.Trod enc P w base spare held t v d ps) : ∃ xs : List Value, v = .agg xs.toArray ∧ xs.length = P.cellsOf t ∧ RdT P w t xs := by
  obtain ⟨cs, rfl, hs⟩ := WideShapes.okWide_struct ht hv
  exact ⟨cs.toList, by simp, by simpa using hs, by simpa [Value.cells] using RdT.of h⟩
theorem RdT.u64 {P : Program} {w : World} {t : TypeId} {xs : List Value} (ht : P.underlying t = some (.int .u64)) (h : RdT P w t xs) : ∃ n : Nat, xs = [.int .u64 n] ∧ n < 18446744073709551616 := by
  obtain ⟨n, rfl, h1, h2⟩ := h.int ht
  have e0 : IntKind.min .u64 = 0 := by decide
  have e1 : IntKind.max .u64 = 18446744073709551615 := by decide
  exact ⟨n.toNat, by rw [Int.toNat_of_nonneg (by omega)], by omega⟩
theorem arg_byte {H : Type} {enc : TypeId × Value → H} {P : Program} {w : World} {base b0 : Nat} {spare : Nat → Bool} {held : Bool} {r : Reach} {t : TypeId} {v : Value} {d : DataW H} {ps : List MemPlace}
    (ht : P.underlying t = some (.int .u8)) (hv : Value.okWide P w r b0 t v) (h : DataW.Trod enc P w base spare held t v d ps) : ∃ c : UInt8, v = u8V c := by
  obtain ⟨n, rfl⟩ := WideShapes.okWide_int ht hv
  obtain ⟨c, e⟩ := RdT.byte ht (RdT.of h)
  have q : [Value.int .u8 n] = [u8V c] := by simpa [Value.cells] using e
  injection q with q
  exact ⟨c, q⟩
theorem arg_arr {H : Type} {enc : TypeId × Value → H} {P : Program} {w : World} {base b0 : Nat} {spare : Nat → Bool} {held : Bool} {r : Reach} {t e : TypeId} {n : Nat} {v : Value} {d : DataW H} {ps : List MemPlace}
    (ht : P.underlying t = some (.array n e)) (hv : Value.okWide P w r b0 t v) (h : DataW.Trod enc P w base spare held t v d ps) : ∃ xs : List Value, v = .agg xs.toArray ∧ xs.length = P.cellsOf t ∧ RdT P w t xs := by
  simp only [Value.okWide, ht] at hv
  obtain ⟨cs, rfl, hs, _⟩ := hv
  exact ⟨cs.toList, by simp, by simpa using hs, by simpa [Value.cells] using RdT.of h⟩
theorem RdT.int3 {P : Program} {w : World} {t e : TypeId} {xs : List Value} (ht : P.underlying t = some (.array 3 e)) (he : P.underlying e = some (.int .i64)) (hC : P.cellsOf e = 1) (hl : xs.length = 3) (h : RdT P w t xs) :
    ∃ a0 a1 a2 : Int, xs = [.int .i64 a0, .int .i64 a1, .int .i64 a2] ∧ (-9223372036854775808 ≤ a0 ∧ a0 ≤ 9223372036854775807) ∧ (-9223372036854775808 ≤ a1 ∧ a1 ≤ 9223372036854775807) ∧ (-9223372036854775808 ≤ a2 ∧ a2 ≤ 9223372036854775807) := by
  obtain ⟨_, hf⟩ := h.arr ht
  rw [hC] at hf
  match xs, hl with
  | [x0, x1, x2], _ =>
    obtain ⟨n0, e0, g0⟩ := (hf 0 (by decide)).i64 he
    obtain ⟨n1, e1, g1⟩ := (hf 1 (by decide)).i64 he
    obtain ⟨n2, e2, g2⟩ := (hf 2 (by decide)).i64 he
    have q0 : [x0] = [Value.int .i64 n0] := e0
    have q1 : [x1] = [Value.int .i64 n1] := e1
    have q2 : [x2] = [Value.int .i64 n2] := e2
    injection q0 with q0; injection q1 with q1; injection q2 with q2
    subst q0; subst q1; subst q2
    exact ⟨n0, n1, n2, rfl, g0, g1, g2⟩
end Go.SL
