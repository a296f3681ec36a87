/- A slice that came in has no more elements than its capacity. -/
import Derived.Test.YtcjpiceklicmoaaGreatDoorSlF
namespace Go.SL
set_option linter.unusedVariables false
set_option linter.unusedSimpArgs false

theorem RdT.cap {P : Program} {w : World} {t e : TypeId} {a : Option Addr} {n c : Nat} (ht : P.underlying t = some (.slice e)) (h : RdT P w t [.slice a n c]) : n ≤ c := by
  obtain ⟨H, enc, base, spare, held, fuel, x, h⟩ := h
  rcases DataW.trod_slice ht h with ⟨e1, _⟩ | ⟨a', len, cap, elems, rest, n', _, e1, _, _, hl, _⟩
  · injection e1 with e1
    injection e1 with e1 e2 e3
    omega
  · injection e1 with e1
    injection e1 with e1 e2 e3
    omega
theorem arg_cap {H : Type} {enc : TypeId × Value → H} {P : Program} {w : World} {base : Nat} {spare : Nat → Bool} {held : Bool} {t e : TypeId} {a : Option Addr} {n c : Nat} {d : DataW H} {ps : List MemPlace}
    (ht : P.underlying t = some (.slice e)) (h : DataW.Trod enc P w base spare held t (.slice a n c) d ps) : n ≤ c := by
  have q := RdT.of h
  exact RdT.cap ht (by simpa [Value.cells] using q)
end Go.SL
