/- Calls, short: the callee's body is found by an instance. Generic in the program. -/
import Derived.Test.YtcjpiceklicmoaaGreatDoorSlY
namespace Go.SL
set_option linter.unusedVariables false
set_option linter.unusedSectionVars false
/-- A function that has a body. -/
class FB (P : Program) (g : FuncId) : Prop where
  ex : ∃ fn c, P.funcs[g]? = some fn ∧ fn.body = some c ∧ (fn.name == "runtime.NumGoroutine") = false
section
variable {P : Program} {ro : Option Nat} {f : Frm} {L : List HP} {d : Option Nat} {ty : TypeId} {ps : String} {af : Array Edge} {gu : Option (Nat × Bool)}
variable {N : Nat} {all : Array Oper} {rest : List Oper} {Post : Post} {g : FuncId} {as : List Operand} {ts : Array TypeId} {vs : List Value} {Q : Value → List HP → Prop}
theorem WO.cal [x : FB P g] (t : TriE P g vs.toArray Q L) (h : ∀ v M, Q v M → WO P N ro all rest Post (f.putO d v) M) (hv : as.map f.ev = vs := by rfl) (hd : dOk N d = true := by rfl) :
    WO P N ro all (⟨d, .call { callee := .value (.func g), args := as.toArray, argTypes := ts }, ty, ps, af, none⟩ :: rest) Post f L := by
  obtain ⟨fn, c, h1, h2, h3⟩ := x.ex
  exact WO.callE h1 h2 h3 hv hd t h
/-- The same, the items in another order. -/
theorem WO.calX [x : FB P g] {A : List HP} (t : TriE P g vs.toArray Q A) (e : Ent L A) (h : ∀ v M, Q v M → WO P N ro all rest Post (f.putO d v) M) (hv : as.map f.ev = vs := by rfl) (hd : dOk N d = true := by rfl) :
    WO P N ro all (⟨d, .call { callee := .value (.func g), args := as.toArray, argTypes := ts }, ty, ps, af, none⟩ :: rest) Post f L := by
  obtain ⟨fn, c, h1, h2, h3⟩ := x.ex
  exact WO.callE h1 h2 h3 hv hd (TriE.ent e t) h
theorem DB.cal {D : Nat → Bool} {bf : Array Nat} {i : Nat} {S : St} {R : List Oper} {H A M : List HP} {K : Frm → List HP → Prop} {gu : Option (Nat × Bool)} [x : FB P g] (hA : al S = A) (hM : A ++ H = M) (t : TriE P g vs.toArray Q M)
    (k : ∀ v M', Q v M' → ∃ B H', Ent M' (A ++ B ++ H') ∧ DB P ro D all K bf (i + 1) (S ++ tag i B) R (f.putO d v) H') (hv : as.map f.ev = vs := by rfl)
    (hw : wF all f ⟨d, .call { callee := .value (.func g), args := as.toArray, argTypes := ts }, ty, ps, af, gu⟩ = true := by rfl) :
    DB P ro D all K bf i S (⟨d, .call { callee := .value (.func g), args := as.toArray, argTypes := ts }, ty, ps, af, gu⟩ :: R) f H := by
  obtain ⟨fn, c, h1, h2, h3⟩ := x.ex
  exact DB.callE h1 h2 h3 hv hw hA hM t k
theorem DB.calX {D : Nat → Bool} {bf : Array Nat} {i : Nat} {S : St} {R : List Oper} {H A M M2 : List HP} {K : Frm → List HP → Prop} {gu : Option (Nat × Bool)} [x : FB P g] (hA : al S = A) (hM : A ++ H = M) (t : TriE P g vs.toArray Q M2) (e : Ent M M2)
    (k : ∀ v M', Q v M' → ∃ B H', Ent M' (A ++ B ++ H') ∧ DB P ro D all K bf (i + 1) (S ++ tag i B) R (f.putO d v) H') (hv : as.map f.ev = vs := by rfl)
    (hw : wF all f ⟨d, .call { callee := .value (.func g), args := as.toArray, argTypes := ts }, ty, ps, af, gu⟩ = true := by rfl) :
    DB P ro D all K bf i S (⟨d, .call { callee := .value (.func g), args := as.toArray, argTypes := ts }, ty, ps, af, gu⟩ :: R) f H := by
  obtain ⟨fn, c, h1, h2, h3⟩ := x.ex
  exact DB.callE h1 h2 h3 hv hw hA hM (TriE.ent e t) k
end
end Go.SL
