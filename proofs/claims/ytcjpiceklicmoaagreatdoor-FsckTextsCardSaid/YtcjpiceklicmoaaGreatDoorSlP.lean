/- A call of a function that is a value. Generic in the program. -/
import Derived.Test.YtcjpiceklicmoaaGreatDoorSlO
namespace Go.SL
set_option linter.unusedVariables false
set_option linter.unusedSimpArgs false
set_option linter.unusedSectionVars false
section
variable {P : Program} {ro : Option Nat} {f : Frm} {L : List HP} {d : Option Nat} {ty : TypeId} {ps : String} {af : Array Edge} {gu : Option (Nat × Bool)}
theorem OW.callV {g : FuncId} {fn : Func} {c : Code} {y : Operand} {as : Array Operand} {ts : Array TypeId} {vs : List Value} {next : Frm → List HP → Prop} (hy : f.ev y = .func (.func g) #[] #[]) (hf : P.funcs[g]? = some fn) (hb : fn.body = some c) (hn : (fn.name == "runtime.NumGoroutine") = false)
    (hv : (as.map f.ev).toList = vs) (t : Tri P g vs.toArray (fun v L' => next (f.putO d v) L') L) :
    OW P ro ⟨d, .call { callee := .value y, args := as, argTypes := ts }, ty, ps, af, gu⟩ f next L := by
  have hv' : as.map f.ev = vs.toArray := by rw [← hv]
  unfold OW
  rw [Oper.semAt_eq _ _ _ (by intro c h; cases h)]
  refine SW.ok (a := Next.enter g vs.toArray) (fun w => ?_) t
  simp only [execOp, resolve, hv', hy, Deferred.ofValue]
  simp only [bind, Sem.bind, pure, invoke]
  have e : (#[] ++ vs.toArray ++ #[] : Array Value) = vs.toArray := by simp
  rw [e]
  exact callFunc_run hf hb hn vs.toArray w
theorem WO.callV {N : Nat} {all : Array Oper} {rest : List Oper} {Post : Post} {g : FuncId} {fn : Func} {c : Code} {y : Operand} {as : List Operand} {ts : Array TypeId} {vs : List Value} {Q : Value → List HP → Prop} (hy : f.ev y = .func (.func g) #[] #[]) (hf : P.funcs[g]? = some fn) (hb : fn.body = some c) (hn : (fn.name == "runtime.NumGoroutine") = false)
    (hv : as.map f.ev = vs) (hd : dOk N d = true) (t : TriE P g vs.toArray Q L) (h : ∀ v M, Q v M → WO P N ro all rest Post (f.putO d v) M) :
    WO P N ro all (⟨d, .call { callee := .value y, args := as.toArray, argTypes := ts }, ty, ps, af, none⟩ :: rest) Post f L :=
  WO.op hd (OW.callV hy hf hb hn (by simpa using hv) (Tri.mono t fun v L' ⟨M, e, q⟩ => WO.ent e (h v M q)))
end
end Go.SL
