/- Equality of rows of bytes. Generic in the program. -/
import Derived.Test.YtcjpiceklicmoaaGreatDoorSlK
import Derived.ChangeKeysEq
namespace Go.SL
set_option linter.unusedVariables false
set_option linter.unusedSimpArgs false
set_option linter.unusedSectionVars false
section
variable {P : Program} {ro : Option Nat} {f : Frm} {L : List HP} {d : Option Nat} {ty : TypeId} {ps : String} {af : Array Edge} {gu : Option (Nat × Bool)} {K : Value → List HP → Prop}
theorem eqItems_bytes (w : World) {e : TypeId} (he : P.underlying e = some (.int .u8)) (s t : List UInt8) (hl : s.length = t.length) : ∀ (is : List Nat), (∀ i ∈ is, i < s.length) →
    (Op.eqItems 9999 e 1 (s.map u8V).toArray (t.map u8V).toArray is).run P w = .ok (decide (∀ i ∈ is, s[i]? = t[i]?)) w
  | [], _ => by simp [Op.eqItems]
  | i :: is, h => by
    have hi := h i List.mem_cons_self
    have hi2 : i < t.length := by omega
    have agg : (Go.isAgg e).run P w = .ok false w := by
      unfold Go.isAgg
      simp [run_underlying he]
    have p0 : (part e (s.map u8V).toArray (i * 1)).run P w = .ok (u8V s[i]) w := by
      unfold part; simp only [Sem.run_bind, agg, Result.andThen_ok]; simp [hi]
    have p1 : (part e (t.map u8V).toArray (i * 1)).run P w = .ok (u8V t[i]) w := by
      unfold part; simp only [Sem.run_bind, agg, Result.andThen_ok]; simp [hi2]
    have q : (Op.equalIn 9999 e (u8V s[i]) (u8V t[i])).run P w = .ok (decide (s[i] = t[i])) w := by
      unfold u8V
      rw [show (9999 : Nat) = 9998 + 1 from rfl, run_equalIn_int w 9998 e _ _ _ _ he, beqI]
      congr 1
      rw [decide_eq_decide]
      exact ⟨fun z => UInt8.toNat_inj.1 (by omega), fun z => by rw [z]⟩
    have ih := eqItems_bytes w he s t hl is (fun j hj => h j (List.mem_cons_of_mem _ hj))
    simp only [Op.eqItems, Sem.run_bind, p0, p1, q, Result.andThen_ok]
    have e1 : s[i]? = some s[i] := List.getElem?_eq_getElem hi
    have e2 : t[i]? = some t[i] := List.getElem?_eq_getElem hi2
    by_cases z : s[i] = t[i]
    · rw [decide_eq_true z]
      rw [if_neg (by decide)]
      rw [ih]
      congr 1
      rw [decide_eq_decide]
      simp [e1, e2, z]
    · rw [decide_eq_false z]
      rw [if_pos (by decide), Sem.run_pure]
      congr 1
      refine (decide_eq_false ?_).symm
      intro q
      have := q i List.mem_cons_self
      rw [e1, e2] at this
      exact z (by injection this)
theorem SV.neqBytes {t e n : Nat} {yt : TypeId} {i : TypeInfo} {x y : Operand} {a b : List UInt8} (hx : f.ev x = .agg (a.map u8V).toArray) (hy : f.ev y = .agg (b.map u8V).toArray) (ht : P.underlying t = some (.array n e)) (he : P.underlying e = some (.int .u8))
    (hi : P.info? e = some i) (hC : P.cellsOf e = 1) (hg : P.eqGuardType P.depth t = false) (ha : a.length = n) (hb : b.length = n) (h : K (.bool (!decide (a = b))) L) : SV P ro ⟨d, .binOp .neq t x y yt, ty, ps, af, gu⟩ f K L := by
  refine SV.bin hx hy (fun w => ?_) h
  rw [Sem.run_bind, run_eqGuard_agg w _ _ _ _ _ _ hg, Result.andThen_ok, run_neq_struct]
  rw [show (10000 : Nat) = 9999 + 1 from rfl, run_equalIn_array w 9999 _ _ ht hi, hC, eqItems_bytes w he a b (by omega) (List.range n) (fun i hi => by have := List.mem_range.1 hi; omega), Result.andThen_ok]
  congr 3
  rw [decide_eq_decide]
  constructor
  · intro z
    apply List.ext_getElem?
    intro j
    by_cases hj : j < n
    · exact z j (List.mem_range.2 hj)
    · rw [List.getElem?_eq_none (by omega), List.getElem?_eq_none (by omega)]
  · rintro rfl j _; rfl
end
end Go.SL
