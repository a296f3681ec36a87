/- Layer 8: marks: a mark that came in. -/
import Derived.Test.YtlcahhfbhjbgoaaDoorSlJ
import Derived.Test.YtlcahhfbhjbgoaaDoorMb
namespace Go.SL
open Go.Proofs
set_option linter.unusedVariables false
set_option maxRecDepth 100000

theorem arg_mark {H : Type} {enc : TypeId × Value → H} {w : World} {base b0 : Nat} {spare : Nat → Bool} {held : Bool} {r : Reach} {v : Value} {d : DataW H} {ps : List MemPlace}
    (hv : Value.okWide Tryd.prog w r b0 24 v) (h : DataW.Trod enc Tryd.prog w base spare held 24 v d ps) :
    ∃ (k : UInt8) (e s : Nat), v = .agg (mkL k e s).toArray ∧ e < 18446744073709551616 ∧ s < 18446744073709551616 := by
  obtain ⟨xs, rfl, hl, hx⟩ := arg_struct Tryd.underlying24 hv h
  have hl : xs.length = 3 := hl.trans (by kernel_rfl)
  obtain ⟨_, hf⟩ := hx.agg Tryd.underlying24
  match xs, hl with
  | [x0, x1, x2], _ =>
    obtain ⟨k, e0⟩ := (hf 0 _ rfl).byte Tryd.underlying5
    obtain ⟨n1, e1, g1⟩ := (hf 1 _ rfl).u64 Tryd.underlying22
    obtain ⟨n2, e2, g2⟩ := (hf 2 _ rfl).u64 Tryd.underlying22
    have q0 : [x0] = [u8V k] := e0
    have q1 : [x1] = [Value.int .u64 n1] := e1
    have q2 : [x2] = [Value.int .u64 n2] := e2
    injection q0 with q0; injection q1 with q1; injection q2 with q2
    subst q0; subst q1; subst q2
    exact ⟨k, n1, n2, rfl, g1, g2⟩
end Go.SL
