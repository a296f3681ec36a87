/- Functions that hold on to variables. Generic in the program. -/
import Derived.Test.YtcjpiceklicmoaaGreatDoorSlP
namespace Go.SL
set_option linter.unusedVariables false
set_option linter.unusedSimpArgs false
set_option linter.unusedSectionVars false
section
variable {P : Program} {ro : Option Nat} {f : Frm} {L : List HP} {d : Option Nat} {ty : TypeId} {ps : String} {af : Array Edge} {gu : Option (Nat × Bool)} {K : Value → List HP → Prop}
theorem SV.makeFunc {g : FuncId} {xs : List Operand} {cs : List Value} (hv : xs.map f.ev = cs) (h : K (.func (.func g) #[] cs.toArray) L) : SV P ro ⟨d, .makeFunc (.func g) #[] xs.toArray, ty, ps, af, gu⟩ f K L := by
  have hv' : xs.toArray.map f.ev = cs.toArray := by rw [← hv]; simp
  refine (SV.val (Instr.makeFunc (.func g) #[] cs.toArray) (by intro c h; cases h) (by simp only [execOp, hv', Array.map_empty]) ?_)
  exact SW.pure h
theorem OW.callW {g : FuncId} {fn : Func} {c : Code} {y : Operand} {as : Array Operand} {ts : Array TypeId} {vs cs : List Value} {next : Frm → List HP → Prop} (hy : f.ev y = .func (.func g) #[] cs.toArray) (hf : P.funcs[g]? = some fn) (hb : fn.body = some c) (hn : (fn.name == "runtime.NumGoroutine") = false)
    (hv : (as.map f.ev).toList = vs) (t : Tri P g (vs ++ cs).toArray (fun v L' => next (f.putO d v) L') L) :
    OW P ro ⟨d, .call { callee := .value y, args := as, argTypes := ts }, ty, ps, af, gu⟩ f next L := by
  have hv' : as.map f.ev = vs.toArray := by rw [← hv]
  unfold OW
  rw [Oper.semAt_eq _ _ _ (by intro c h; cases h)]
  refine SW.ok (a := Next.enter g (vs ++ cs).toArray) (fun w => ?_) t
  simp only [execOp, resolve, hv', hy, Deferred.ofValue]
  simp only [bind, Sem.bind, pure, invoke]
  have e : (#[] ++ vs.toArray ++ cs.toArray : Array Value) = (vs ++ cs).toArray := by simp
  rw [e]
  exact callFunc_run hf hb hn (vs ++ cs).toArray w
theorem WO.callW {N : Nat} {all : Array Oper} {rest : List Oper} {Post : Post} {g : FuncId} {fn : Func} {c : Code} {y : Operand} {as : List Operand} {ts : Array TypeId} {vs cs : List Value} {Q : Value → List HP → Prop} (hy : f.ev y = .func (.func g) #[] cs.toArray) (hf : P.funcs[g]? = some fn) (hb : fn.body = some c) (hn : (fn.name == "runtime.NumGoroutine") = false)
    (hv : as.map f.ev = vs) (hd : dOk N d = true) (t : TriE P g (vs ++ cs).toArray Q L) (h : ∀ v M, Q v M → WO P N ro all rest Post (f.putO d v) M) :
    WO P N ro all (⟨d, .call { callee := .value y, args := as.toArray, argTypes := ts }, ty, ps, af, none⟩ :: rest) Post f L :=
  WO.op hd (OW.callW hy hf hb hn (by simpa using hv) (Tri.mono t fun v L' ⟨M, e, q⟩ => WO.ent e (h v M q)))
variable {all : Array Oper}
theorem DB.callW {g : FuncId} {fn : Func} {c : Code} {y : Operand} {as : List Operand} {ts : Array TypeId} {vs cs : List Value} {Q : Value → List HP → Prop} {D : Nat → Bool} {bf : Array Nat} {i : Nat} {S : St} {R : List Oper} {H A M : List HP} {K : Frm → List HP → Prop} (hy : f.ev y = .func (.func g) #[] cs.toArray) (hf : P.funcs[g]? = some fn) (hb : fn.body = some c) (hn : (fn.name == "runtime.NumGoroutine") = false)
    (hv : as.map f.ev = vs) (hw : wF all f ⟨d, .call { callee := .value y, args := as.toArray, argTypes := ts }, ty, ps, af, gu⟩ = true) (hA : al S = A) (hM : A ++ H = M) (t : TriE P g (vs ++ cs).toArray Q M)
    (k : ∀ v M', Q v M' → ∃ B H', Ent M' (A ++ B ++ H') ∧ DB P ro D all K bf (i + 1) (S ++ tag i B) R (f.putO d v) H') :
    DB P ro D all K bf i S (⟨d, .call { callee := .value y, args := as.toArray, argTypes := ts }, ty, ps, af, gu⟩ :: R) f H :=
  DB.e rfl rfl hw hA (hM ▸ Ent.refl _) (OW.callW hy hf hb hn (by simpa using hv) (Tri.mono t fun v L' ⟨M', e', q⟩ => let ⟨B, H', e2, h⟩ := k v M' q; ⟨B, H', e'.trans e2, h⟩))
end
end Go.SL
