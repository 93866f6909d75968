import Lean
open Lean Meta Elab Tactic
/-- debugging alone: the next stop -/
elab "sx_show" : tactic => withMainContext do
  let g ← getMainGoal
  let t ← whnf (← g.getType)
  let f := t.getAppFn
  let mut msg := m!"STOP {f}"
  let n : Nat := t.getAppNumArgs
  let mut i : Nat := 0
  for a in t.getAppArgs do
    i := i + 1
    let ty ← inferType a
    let ty ← whnfR ty
    if ty.isForall || ty.isSort then continue
    let ty2 ← inferType a
    if (← isProp ty2) then continue
    if (← isProp a) then continue
    let nm := ty2.getAppFn.constName?.getD `x
    if nm.toString.endsWith "Sx" || nm.toString.endsWith "World" || nm.toString.endsWith "Fr" || nm.toString.endsWith "Oper" || nm.toString.endsWith "Code" then continue
    let a ← if nm.toString.endsWith "Hp" || nm.toString.endsWith "List" then pure a else pure a
    msg := m!"{msg}\n  {toString i}/{toString n} : {a}"
  logInfo msg
/-- the goals' number -/
elab "sx_count" : tactic => do logInfo m!"GOALS {(← getGoals).length}"
