/- Equality of structs whose fields are numbers, bools and strings; stores into bytes of one's own. Generic in the program. -/
import Derived.Test.YtcjpiceklicmoaaGreatDoorSlG
import Derived.Laws.StructEq
namespace Go.SL
set_option linter.unusedVariables false
set_option linter.unusedSimpArgs false

def fieldKinds (P : Program) : List Field → Nat → Bool
  | [], _ => true
  | f :: r, i => !(f.name == "_") && Nat.beq f.offset i && (match P.underlying f.type with | some (.int _) => true | some .bool => true | some .string => true | _ => false) && fieldKinds P r (i + 1)
/-- A struct whose fields are numbers, bools and strings. -/
class TQ (P : Program) (t : Nat) : Prop where
  h : P.underlying t = some (.struct (P.fieldsOf t))
  k : fieldKinds P (P.fieldsOf t).toList 0 = true
  s : P.stoodInHeld t = false
  g : P.eqGuardType P.depth t = false
/-- Whether two lists of numbers, bools and strings are the same. -/
def sEq : List Value → List Value → Bool
  | .int _ a :: xs, .int _ b :: ys => decide (a = b) && sEq xs ys
  | .bool a :: xs, .bool b :: ys => (a == b) && sEq xs ys
  | .string a :: xs, .string b :: ys => decide (a.toList = b.toList) && sEq xs ys
  | _, _ => true
/-- Whether they are of the types' forms. -/
def sForm (P : Program) : List Field → List Value → List Value → Bool
  | [], _, _ => true
  | f :: r, x :: xs, y :: ys => (match P.underlying f.type, x, y with | some (.int _), .int k _, .int k' _ => decide (k = k') | some .bool, .bool _, .bool _ => true | some .string, .string _, .string _ => true | _, _, _ => false) && sForm P r xs ys
  | _, _, _ => false
theorem sEq_self : ∀ xs : List Value, sEq xs xs = true
  | [] => rfl
  | x :: xs => by
    have ih := sEq_self xs
    cases x <;> simp [sEq, ih]
section
variable {P : Program}
theorem eqFields_run (d : Nat) (w : World) : ∀ (fs : List Field) (i : Nat) (xs ys : List Value) (us vs : Array Value), fieldKinds P fs i = true → sForm P fs xs ys = true → xs.length = fs.length → ys.length = fs.length →
    (∀ j, us[i + j]? = xs[j]?) → (∀ j, vs[i + j]? = ys[j]?) → (Op.eqFields (d + 1) us vs fs).run P w = .ok (sEq xs ys) w
  | [], i, xs, ys, us, vs, _, _, h1, h2, _, _ => by
    have e1 : xs = [] := List.eq_nil_of_length_eq_zero (by simpa using h1)
    have e2 : ys = [] := List.eq_nil_of_length_eq_zero (by simpa using h2)
    subst e1; subst e2
    simp [Op.eqFields, sEq]
  | f :: fs, i, xs, ys, us, vs, hk, hf, h1, h2, g1, g2 => by
    match xs, ys, h1, h2 with
    | x :: xs, y :: ys, h1, h2 =>
      simp only [fieldKinds, Bool.and_eq_true, Bool.not_eq_true', beq_eq_false_iff_ne, ne_eq] at hk
      obtain ⟨⟨⟨k1, k2⟩, k3⟩, k4⟩ := hk
      have k2 := Nat.eq_of_beq_eq_true k2
      simp only [sForm, Bool.and_eq_true] at hf
      obtain ⟨f1, f2⟩ := hf
      have ih := eqFields_run d w fs (i + 1) xs ys us vs k4 f2 (by simpa using h1) (by simpa using h2) (fun j => by have := g1 (j + 1); rw [show i + (j + 1) = i + 1 + j by omega] at this; simpa using this) (fun j => by have := g2 (j + 1); rw [show i + (j + 1) = i + 1 + j by omega] at this; simpa using this)
      have ux : us[f.offset]? = some x := by have := g1 0; rw [k2]; simpa using this
      have vy : vs[f.offset]? = some y := by have := g2 0; rw [k2]; simpa using this
      have agg : (Go.isAgg f.type).run P w = .ok false w := by
        unfold Go.isAgg
        cases hu : P.underlying f.type with
        | none => simp [hu] at k3
        | some de => cases de <;> simp [hu] at k3 <;> simp [run_underlying hu]
      have p1 : (part f.type us f.offset).run P w = .ok x w := by unfold part; simp only [Sem.run_bind, agg, Result.andThen_ok]; simp [ux]
      have p2 : (part f.type vs f.offset).run P w = .ok y w := by unfold part; simp only [Sem.run_bind, agg, Result.andThen_ok]; simp [vy]
      unfold Op.eqFields
      rw [if_pos (by simpa using k1)]
      simp only [Sem.run_bind, p1, p2, Result.andThen_ok]
      have eqr : ∃ b, (Op.equalIn (d + 1) f.type x y).run P w = .ok b w ∧ sEq (x :: xs) (y :: ys) = (b && sEq xs ys) := by
        cases hu : P.underlying f.type with
        | none => simp [hu] at f1
        | some de =>
          cases de <;> cases x <;> simp [hu] at f1 <;> cases y <;> simp at f1
          · exact ⟨_, run_equalIn_bool' w d f.type _ _ hu, rfl⟩
          · subst f1
            refine ⟨_, run_equalIn_int w d f.type _ _ _ _ hu, ?_⟩
            simp only [sEq, beqI]
          · refine ⟨_, run_equalIn_string w d f.type _ _ hu, ?_⟩
            simp only [sEq]
            congr 1
            rw [Bool.eq_iff_iff]; simp
      obtain ⟨b, e1, e2⟩ := eqr
      rw [e1, e2]
      cases b
      · simp
      · simp only [Result.andThen_ok, Bool.not_true, Bool.false_eq_true, if_false, Bool.true_and]
        exact ih
theorem eqStruct_run {t : Nat} [q : TQ P t] {xs ys : List Value} (w : World) (hf : sForm P (P.fieldsOf t).toList xs ys = true) (h1 : xs.length = (P.fieldsOf t).size) (h2 : ys.length = (P.fieldsOf t).size) :
    (Op.equalIn 10000 t (.agg xs.toArray) (.agg ys.toArray)).run P w = .ok (sEq xs ys) w := by
  rw [show (10000 : Nat) = 9999 + 1 from rfl, run_equalIn_agg w 9999 t _ _ q.h q.s]
  exact eqFields_run 9998 w _ 0 xs ys _ _ q.k hf (by simpa using h1) (by simpa using h2) (fun j => by simp) (fun j => by simp)
variable {ro : Option Nat} {f : Frm} {L : List HP} {d : Option Nat} {ty : TypeId} {ps : String} {af : Array Edge} {gu : Option (Nat × Bool)} {K : Value → List HP → Prop}
theorem SV.eqlSt {t : Nat} {yt : TypeId} {x y : Operand} {xs ys : List Value} {b : Bool} (hx : f.ev x = .agg xs.toArray) (hy : f.ev y = .agg ys.toArray) [q : TQ P t] (hf : sForm P (P.fieldsOf t).toList xs ys = true) (h1 : xs.length = (P.fieldsOf t).size) (h2 : ys.length = (P.fieldsOf t).size)
    (hb : sEq xs ys = b) (h : K (.bool b) L) : SV P ro ⟨d, .binOp .eql t x y yt, ty, ps, af, gu⟩ f K L := by
  subst hb
  refine SV.bin hx hy (fun w => ?_) h
  rw [Sem.run_bind, run_eqGuard_agg w _ _ _ _ _ _ q.g, Result.andThen_ok, run_eql_struct, eqStruct_run w hf h1 h2, Result.andThen_ok]
theorem SV.neqSt {t : Nat} {yt : TypeId} {x y : Operand} {xs ys : List Value} {b : Bool} (hx : f.ev x = .agg xs.toArray) (hy : f.ev y = .agg ys.toArray) [q : TQ P t] (hf : sForm P (P.fieldsOf t).toList xs ys = true) (h1 : xs.length = (P.fieldsOf t).size) (h2 : ys.length = (P.fieldsOf t).size)
    (hb : sEq xs ys = b) (h : K (.bool (!b)) L) : SV P ro ⟨d, .binOp .neq t x y yt, ty, ps, af, gu⟩ f K L := by
  subst hb
  refine SV.bin hx hy (fun w => ?_) h
  rw [Sem.run_bind, run_eqGuard_agg w _ _ _ _ _ _ q.g, Result.andThen_ok, run_neq_struct, eqStruct_run w hf h1 h2, Result.andThen_ok]
theorem SV.storeB {t E n c b o : Nat} {x y : Operand} {s s' : List UInt8} {u : UInt8} {R : List HP} (j : Nat) (hx : f.ev x = .pointer (some ⟨b, o, none⟩)) [hs : TS P t 1] (k : Tk L (Own E 1 (.slice (some ⟨b, 0, none⟩) n c) n (s.map u8V)) R) (ho : o = j)
    (hy : f.ev y = u8V u) (hn : j < s.length) (he : s.set j u = s') (h : K undef (Own E 1 (.slice (some ⟨b, 0, none⟩) n c) n (s'.map u8V) :: R)) : SV P ro ⟨d, .store t x y, ty, ps, af, gu⟩ f K L := by
  subst he
  exact SV.storeO j hx k ho hy rfl (by simpa using hn) (by rw [List.map_set]) h
end
/-! The length of a slice of one's own is at most its capacity. -/
theorem own_le {E sz n c : Nat} {a : Option Addr} {xs : List Value} {L R Fr : List HP} {w : World} (t : Tk L (Own E sz (.slice a n c) n xs) R) (x : Has (L ++ Fr) (heapOf w)) : n ≤ c := by
  rcases has_own (t.app Fr _ x) with ⟨h1, h2, h3⟩ | ⟨b, cap, sp, fr, ⟨h1, h2, _⟩, _⟩
  · omega
  · injection h1 with h4 h5 h6
    omega
section
variable {P : Program} {N : Nat} {ro : Option Nat} {Q : Post} {f : Frm} {L R : List HP} {E sz n c : Nat} {a : Option Addr} {xs : List Value}
theorem WO.ownCap {all : Array Oper} {todo : List Oper} (t : Tk L (Own E sz (.slice a n c) n xs) R) (h : n ≤ c → WO P N ro all todo Q f L) : WO P N ro all todo Q f L := fun Fr w a' r x => h (own_le t x) Fr w a' r x
theorem W.ownCap {k : Code} (t : Tk L (Own E sz (.slice a n c) n xs) R) (h : n ≤ c → W P N ro k Q f L) : W P N ro k Q f L := fun Fr w a' r x => h (own_le t x) Fr w a' r x
theorem Tri.ownCap {g : FuncId} {args : Array Value} {K : Value → List HP → Prop} (t : Tk L (Own E sz (.slice a n c) n xs) R) (h : n ≤ c → Tri P g args K L) : Tri P g args K L := fun Fr w x => h (own_le t x) Fr w x
end
end Go.SL
