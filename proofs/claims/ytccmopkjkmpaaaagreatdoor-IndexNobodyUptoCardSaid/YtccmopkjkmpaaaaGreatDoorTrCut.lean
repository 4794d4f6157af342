/-
  Cut points of a function's body outside its loops.
-/
import Derived.Test.YtccmopkjkmpaaaaGreatDoorAbSym
namespace Go.Ab
set_option linter.unusedVariables false
set_option linter.unusedSectionVars false
set_option linter.unusedSimpArgs false

/-- a block of a function's body: its own code, what follows told -/
def runTop (P : Program) (H : Hook) (fn : Func) (id n : Nat) (fr : Fr) (M : AMem) (k : AExit → Fr → AMem → Option (AV × AMem)) : Option (AV × AMem) :=
  match fn.body with
  | some c =>
    match blkOf id c with
    | some c => codeK P (acall P H n) fn.ntmps (fnVars fn) n c fr M k
    | none => none
  | none => none

/-- behind a block of a function's body -/
def behindTop (P : Program) (H : Hook) (fn : Func) (id n : Nat) (e : AExit) (fr : Fr) (M : AMem) : Option (AV × AMem) :=
  match fn.body with
  | some c => resumeB P (acall P H n) fn.ntmps (fnVars fn) n id c e fr M fun e fr M' =>
    match e with
    | .exit _ => none
    | _ => resultsK P M' fr fn.results.toList fun vs => some (packA vs, M')
  | none => none
end Go.Ab
