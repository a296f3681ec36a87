import Lean
import Derived.Test.YtlcahhfbhjbgoaaSlD
namespace Go.SL
open Lean Elab Tactic Meta
elab "gsz" s:str : tactic => do
  let g ← getMainGoal
  let t ← instantiateMVars (← g.getType)
  let n ← t.numObjs
  let pp ← ppExpr t
  logInfo m!"@@ {s.getString}: goal dag {n} ms {← IO.monoMsNow} {if n < 70 then m!"{Format.pretty pp 10000}" else m!""}"
/-- prints slots of the frame -/
elab "slots" ns:num* : tactic => do
  let g ← getMainGoal
  g.withContext do
  let t ← instantiateMVars (← g.getType)
  let args := t.getAppArgs
  let mut fr : Option Lean.Expr := none
  for a in args do
    let ty ← inferType a
    if ty.isConstOf ``Frm then fr := some a
  let some f := fr | throwError "no frame"
  for n in ns do
    let e := mkApp2 (mkConst ``Frm.v) f (mkNatLit n.getNat)
    let r ← whnf e
    let r ← Meta.reduce r (skipTypes := true)
    logInfo m!"@@ slot {n.getNat} = {Format.pretty (← ppExpr r) 10000}"
end Go.SL
