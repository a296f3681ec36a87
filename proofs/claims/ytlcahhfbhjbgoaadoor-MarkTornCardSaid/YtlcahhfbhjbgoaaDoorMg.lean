/- Layer 8: marks: whether two are one; parts of rows. -/
import Derived.Test.YtlcahhfbhjbgoaaDoorMf
import Derived.Laws.StructEq
import Derived.Tactics
namespace Go.SL
open Go.Proofs
set_option linter.unusedVariables false
set_option maxRecDepth 10000
set_option maxHeartbeats 4000000

/-- A part of a row. -/
theorem RdS.sub {n i k b off : Nat} {xs : List Value} {L : List HP} (r : RdS 1 (some ⟨b, off, none⟩) n xs L) (h : i + k ≤ n) : RdS 1 (some ⟨b, off + i, none⟩) k ((xs.drop i).take k) L := by
  have hx := r.len
  refine ⟨by simp; omega, fun _ => ⟨b, off + i, rfl⟩, fun b' off' e h0 q x => ?_⟩
  injection e with e
  injection e with e1 e2
  subst e1; subst e2
  obtain ⟨l, T, fr, q1, q2, q3⟩ := r.2.2 b off rfl (by omega) q x
  refine ⟨l, T, fr, q1, by omega, ?_⟩
  rw [Nat.mul_one] at q2 q3 ⊢
  rw [← q3, ← lsub_lsub l off n i k q2 h, lsub_eq, lsub_eq]

theorem eqMk (k k' : UInt8) (e s e' s' : Nat) (w : World) : (Op.equalIn 10000 24 (.agg (mkL k e s).toArray) (.agg (mkL k' e' s').toArray)).run Tryd.prog w = .ok (decide (k = k' ∧ e = e' ∧ s = s')) w := by
  have u5 := Tryd.underlying5
  have u22 := Tryd.underlying22
  have a5 := Tryd.isAgg5
  have a22 := Tryd.isAgg22
  have z5 := Tryd.sizeOf5
  have z22 := Tryd.sizeOf22
  have hS : Tryd.prog.underlying 24 = some (.struct (Tryd.prog.fieldsOf 24)) := by kernel_rfl
  have hp : Tryd.prog.stoodInHeld 24 = false := by kernel_rfl
  rw [show (10000 : Nat) = 9999 + 1 from rfl, run_equalIn_agg w 9999 24 _ _ hS hp]
  simp only [Program.fieldsOf, Tryd.underlying24, mkL, u8V]
  go_simp
  have hk : ((k.toNat : Int) = (k'.toNat : Int)) ↔ k = k' := by rw [← UInt8.toNat_inj]; omega
  have he : ((e : Int) = (e' : Int)) ↔ e = e' := by omega
  have hs : ((s : Int) = (s' : Int)) ↔ s = s' := by omega
  by_cases h1 : k = k' <;> by_cases h2 : e = e' <;> by_cases h3 : s = s' <;> simp [hk, he, hs, h1, h2, h3]
section
variable {ro : Option Nat} {f : Frm} {L : List HP} {d : Option Nat} {ty : TypeId} {ps : String} {af : Array Edge} {gu : Option (Nat × Bool)} {K : Value → List HP → Prop}
theorem SV.eqlMk {yt : TypeId} {x y : Operand} {k k' : UInt8} {e s e' s' : Nat} (hx : f.ev x = .agg (mkL k e s).toArray) (hy : f.ev y = .agg (mkL k' e' s').toArray) (h : K (.bool (decide (k = k' ∧ e = e' ∧ s = s'))) L) :
    SV Tryd.prog ro ⟨d, .binOp .eql 24 x y yt, ty, ps, af, gu⟩ f K L := by
  refine SV.bin hx hy (fun w => ?_) h
  rw [Sem.run_bind, run_eqGuard_agg w _ _ _ _ _ _ (by kernel_rfl), Result.andThen_ok, run_eql_struct, eqMk, Result.andThen_ok]
theorem SV.neqMk {yt : TypeId} {x y : Operand} {k k' : UInt8} {e s e' s' : Nat} (hx : f.ev x = .agg (mkL k e s).toArray) (hy : f.ev y = .agg (mkL k' e' s').toArray) (h : K (.bool (!decide (k = k' ∧ e = e' ∧ s = s'))) L) :
    SV Tryd.prog ro ⟨d, .binOp .neq 24 x y yt, ty, ps, af, gu⟩ f K L := by
  refine SV.bin hx hy (fun w => ?_) h
  rw [Sem.run_bind, run_eqGuard_agg w _ _ _ _ _ _ (by kernel_rfl), Result.andThen_ok, run_neq_struct, eqMk, Result.andThen_ok]
end
end Go.SL
