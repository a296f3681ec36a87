/- Equality of pairs of numbers. Generic in the program. -/
import Derived.Test.YtlcahhfbhjbgoaaSlK
import Derived.ChangeKeysEq
namespace Go.SL
set_option linter.unusedVariables false
set_option linter.unusedSimpArgs false
set_option linter.unusedSectionVars false
section
variable {P : Program} {ro : Option Nat} {f : Frm} {L : List HP} {d : Option Nat} {ty : TypeId} {ps : String} {af : Array Edge} {gu : Option (Nat × Bool)} {K : Value → List HP → Prop}
theorem equal_pair (w : World) {t e : TypeId} {i : TypeInfo} {a b a' b' : Int} (hu : P.underlying t = some (.array 2 e)) (he : P.underlying e = some (.int .i64)) (hi : P.info? e = some i) (hC : P.cellsOf e = 1) :
    (Op.equalIn 10000 t (.agg [.int .i64 a, .int .i64 b].toArray) (.agg [.int .i64 a', .int .i64 b'].toArray)).run P w = .ok (decide (a = a') && decide (b = b')) w := by
  rw [show (10000 : Nat) = 9999 + 1 from rfl, run_equalIn_array w 9999 _ _ hu hi, hC]
  have agg : (Go.isAgg e).run P w = .ok false w := by
    unfold Go.isAgg
    simp [run_underlying he]
  have p0 : ∀ (x y : Int), (part e [Value.int .i64 x, .int .i64 y].toArray 0).run P w = .ok (.int .i64 x) w := fun x y => by
    unfold part; simp only [Sem.run_bind, agg, Result.andThen_ok]; simp
  have p1 : ∀ (x y : Int), (part e [Value.int .i64 x, .int .i64 y].toArray 1).run P w = .ok (.int .i64 y) w := fun x y => by
    unfold part; simp only [Sem.run_bind, agg, Result.andThen_ok]; simp
  have q : ∀ x y : Int, (Op.equalIn 9999 e (.int .i64 x) (.int .i64 y)).run P w = .ok (decide (x = y)) w := fun x y => by
    rw [show (9999 : Nat) = 9998 + 1 from rfl, run_equalIn_int w 9998 e _ _ _ _ he, beqI]
  rw [show List.range 2 = [0, 1] from rfl]
  simp only [Op.eqItems, Sem.run_bind, Nat.zero_mul, Nat.one_mul, p0, p1, q, Result.andThen_ok]
  by_cases h1 : a = a' <;> by_cases h2 : b = b' <;> simp [h1, h2, p0, p1, q]
theorem SV.neqPair {t e : Nat} {yt : TypeId} {i : TypeInfo} {x y : Operand} {a b a' b' : Int} (hx : f.ev x = .agg [.int .i64 a, .int .i64 b].toArray) (hy : f.ev y = .agg [.int .i64 a', .int .i64 b'].toArray) [ht : TU P t (.array 2 e)] [he : TU P e (.int .i64)]
    (hi : P.info? e = some i) (hC : P.cellsOf e = 1) (hg : P.eqGuardType P.depth t = false) (h : K (.bool (!(decide (a = a') && decide (b = b')))) L) : SV P ro ⟨d, .binOp .neq t x y yt, ty, ps, af, gu⟩ f K L := by
  refine SV.bin hx hy (fun w => ?_) h
  rw [Sem.run_bind, run_eqGuard_agg w _ _ _ _ _ _ hg, Result.andThen_ok, run_neq_struct, equal_pair w ht.h he.h hi hC, Result.andThen_ok]
end
end Go.SL
