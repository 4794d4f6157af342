/-
  A hook that leaves one function alone.
-/
import Derived.Test.YtccmopkjkmpaaaaGreatDoorAbCut
namespace Go.Ab
set_option linter.unusedVariables false

def offH (h : Hook) (f : FuncId) : Hook := fun g => match Nat.beq g f with
  | true => none
  | false => h g

theorem offH_ok {P : Program} {h : Hook} (hh : HookOk P h) (f : FuncId) : HookOk P (offH h f) := by
  intro g args M v M' hq ρ w vs s hg hv
  have hq : (offH h f g).bind (fun k => k args M) = some (v, M') := hq
  unfold offH at hq
  cases e : Nat.beq g f with
  | true => rw [e] at hq; cases hq
  | false =>
    rw [e] at hq
    exact hh g args M v M' hq ρ w vs s hg hv
end Go.Ab
