/-
  Words for the evaluator's equations at open arguments: frames written out, loops by number.
-/
import Derived.Test.YtccmopkjkmpaaaaGreatDoorAbDoor
namespace Go.Ab
set_option linter.unusedVariables false

/-- a frame, written out -/
def mkFr : List (Nat × AV) → Fr := fun l => l.foldl (fun f p => f.set p.1 p.2) .nil

/-- the loops' bodies, outer ones ahead of those in them -/
def loopsOf : Code → List Code
  | .seq a b => loopsOf a ++ loopsOf b
  | .cond _ a b => loopsOf a ++ loopsOf b
  | .block _ c => loopsOf c
  | .loop c => c :: loopsOf c
  | _ => []

def noH : Hook := fun _ => none

def fnLoop (fn : Func) (j : Nat) : Code :=
  match fn.body with
  | some c => (loopsOf c).getD j .skip
  | none => .skip

def fnVars (fn : Func) : List Nat :=
  match fn.body with
  | some c => varsOf (fn.params.size + fn.nfree) fn.results.toList c
  | none => []

/-- a round of loop j of a function; what it leaves is the loop's variables 'vs' -/
def runBody {β : Type} (P : Program) (H : Hook) (fn : Func) (j : Nat) (vs : List Nat) (n : Nat) (fr : Fr) (M : AMem) (k : AExit → Fr → AMem → Option β) : Option β :=
  codeK P (acall P H n) fn.ntmps (fnVars fn) n (fnLoop fn j) fr M fun e fr' M' => k e (keepFrom fr' vs .nil) M'

/-- loop j of a function, at most m rounds -/
def runLoop {β : Type} (P : Program) (H : Hook) (fn : Func) (j : Nat) (vs : List Nat) (n m : Nat) (fr : Fr) (M : AMem) (k : AExit → Fr → AMem → Option β) : Option β :=
  loopK (fun fr M k => codeK P (acall P H n) fn.ntmps (fnVars fn) n (fnLoop fn j) fr M k) vs m fr M k

/-- what follows a round -/
def onward {β : Type} (P : Program) (H : Hook) (fn : Func) (j : Nat) (vs : List Nat) (n m : Nat) (k : AExit → Fr → AMem → Option β) : AExit → Fr → AMem → Option β := fun e fr M =>
  match e with
  | .normal => runLoop P H fn j vs n m fr M k
  | e => k e fr M

theorem runLoop_succ {β : Type} (P : Program) (H : Hook) (fn : Func) (j : Nat) (vs : List Nat) (n m : Nat) (fr : Fr) (M : AMem) (k : AExit → Fr → AMem → Option β) :
    runLoop P H fn j vs n (m + 1) fr M k = runBody P H fn j vs n fr M (onward P H fn j vs n m k) := by
  unfold runLoop runBody
  rw [loopK]
  congr 1

theorem onward_normal {β : Type} (P : Program) (H : Hook) (fn : Func) (j : Nat) (vs : List Nat) (n m : Nat) (fr : Fr) (M : AMem) (k : AExit → Fr → AMem → Option β) : onward P H fn j vs n m k .normal fr M = runLoop P H fn j vs n m fr M k := rfl
theorem onward_ret {β : Type} (P : Program) (H : Hook) (fn : Func) (j : Nat) (vs : List Nat) (n m : Nat) (fr : Fr) (M : AMem) (k : AExit → Fr → AMem → Option β) : onward P H fn j vs n m k .ret fr M = k .ret fr M := rfl
theorem onward_exit {β : Type} (P : Program) (H : Hook) (fn : Func) (j : Nat) (vs : List Nat) (n m : Nat) (id : Nat) (fr : Fr) (M : AMem) (k : AExit → Fr → AMem → Option β) : onward P H fn j vs n m k (.exit id) fr M = k (.exit id) fr M := rfl

def nLoops (c : Code) : Nat := (loopsOf c).length

/-- a code goes on behind its loop number j -/
def resume {β : Type} (P : Program) (call : CallA) (nt : Nat) (vars : List Nat) (n : Nat) : Code → Nat → AExit → Fr → AMem → (AExit → Fr → AMem → Option β) → Option β
  | .seq a b, j, e, fr, M, k =>
    match Nat.blt j (nLoops a) with
    | true => resume P call nt vars n a j e fr M fun e fr' M' =>
      match e with
      | .normal => codeK P call nt vars n b fr' M' k
      | e => k e fr' M'
    | false => resume P call nt vars n b (j - nLoops a) e fr M k
  | .cond _ a b, j, e, fr, M, k =>
    match Nat.blt j (nLoops a) with
    | true => resume P call nt vars n a j e fr M k
    | false => resume P call nt vars n b (j - nLoops a) e fr M k
  | .block id c, j, e, fr, M, k => resume P call nt vars n c j e fr M fun e fr' M' =>
    match e with
    | .exit id' => (match Nat.beq id' id with | true => k .normal (outerFr vars c fr') M' | false => k (.exit id') fr' M')
    | .normal => k .normal (outerFr vars c fr') M'
    | .ret => k .ret fr' M'
  | .loop c, j, e, fr, M, k =>
    match j with
    | 0 => k e fr M
    | j + 1 => resume P call nt vars n c j e fr M k
  | _, _, _, _, _, _ => none

/-- the code of a block -/
def blkOf (id : Nat) : Code → Option Code
  | .seq a b => (blkOf id a).orElse fun _ => blkOf id b
  | .cond _ a b => (blkOf id a).orElse fun _ => blkOf id b
  | .block i c => if Nat.beq i id then some (.block i c) else blkOf id c
  | .loop c => blkOf id c
  | _ => none

def hasBlk (id : Nat) (c : Code) : Bool := (blkOf id c).isSome

/-- a code goes on behind its block 'id' -/
def resumeB {β : Type} (P : Program) (call : CallA) (nt : Nat) (vars : List Nat) (n id : Nat) : Code → AExit → Fr → AMem → (AExit → Fr → AMem → Option β) → Option β
  | .seq a b, e, fr, M, k =>
    match hasBlk id a with
    | true => resumeB P call nt vars n id a e fr M fun e fr' M' =>
      match e with
      | .normal => codeK P call nt vars n b fr' M' k
      | e => k e fr' M'
    | false => resumeB P call nt vars n id b e fr M k
  | .cond _ a b, e, fr, M, k =>
    match hasBlk id a with
    | true => resumeB P call nt vars n id a e fr M k
    | false => resumeB P call nt vars n id b e fr M k
  | .block i c, e, fr, M, k =>
    match Nat.beq i id with
    | true => k e fr M
    | false => resumeB P call nt vars n id c e fr M fun e fr' M' =>
      match e with
      | .exit id' => (match Nat.beq id' i with | true => k .normal (outerFr vars c fr') M' | false => k (.exit id') fr' M')
      | .normal => k .normal (outerFr vars c fr') M'
      | .ret => k .ret fr' M'
  | _, _, _, _, _ => none

/-- a block of loop j's round: its own code, what follows told -/
def runBlk {β : Type} (P : Program) (H : Hook) (fn : Func) (j id n : Nat) (fr : Fr) (M : AMem) (k : AExit → Fr → AMem → Option β) : Option β :=
  match blkOf id (fnLoop fn j) with
  | some c => codeK P (acall P H n) fn.ntmps (fnVars fn) n c fr M k
  | none => none

/-- behind a block of loop j's round -/
def behindBlk {β : Type} (P : Program) (H : Hook) (fn : Func) (j id n : Nat) (vs : List Nat) (k : AExit → Fr → AMem → Option β) (e : AExit) (fr : Fr) (M : AMem) : Option β :=
  resumeB P (acall P H n) fn.ntmps (fnVars fn) n id (fnLoop fn j) e fr M fun e fr' M' => k e (keepFrom fr' vs .nil) M'

def afterLoop (P : Program) (H : Hook) (fn : Func) (j n : Nat) (e : AExit) (fr : Fr) (M : AMem) : Option (AV × AMem) :=
  match fn.body with
  | some c => resume P (acall P H n) fn.ntmps (fnVars fn) n c j e fr M fun e fr M' =>
    match e with
    | .exit _ => none
    | _ => resultsK P M' fr fn.results.toList fun vs => some (packA vs, M')
  | none => none

def afterIn {β : Type} (P : Program) (H : Hook) (fn : Func) (j i n : Nat) (vs : List Nat) (k : AExit → Fr → AMem → Option β) (e : AExit) (fr : Fr) (M : AMem) : Option β :=
  resume P (acall P H n) fn.ntmps (fnVars fn) n (fnLoop fn j) i e fr M fun e fr' M' => k e (keepFrom fr' vs .nil) M'

/-- a function's call -/
def run (P : Program) (H : Hook) (fn : Func) (n : Nat) (args : List AV) (M : AMem) : Option (AV × AMem) := bodyA P (acall P H n) n fn args M

theorem acall_run {P : Program} {H : Hook} {f : FuncId} {fn : Func} (h : P.funcs[f]? = some fn) (hH : H f = none) (n : Nat) (args : List AV) (M : AMem) : acall P H (n + 1) f args M = run P H fn n args M := by
  rw [acall, hH, h]
  rfl

/-! ### words for what stands still -/
def elimO {α R : Type} (x : Option α) (n : R) (f : α → R) : R := match x with | some a => f a | none => n
def getCells {β : Type} (x : Option ABlk) (k : List AV → Nat → Cl → Option β) : Option β := match x with | some (.cells c s l) => k c s l | _ => none

/-! ### the words' steps, for simp -/
section steps
variable {β : Type} {α : Type}
theorem bO (a : α) (k : α → Option β) : bindO (some a) k = k a := rfl
theorem bN (k : α → Option β) : bindO none k = none := rfl
theorem aI (kd : IntKind) (n : Int) (k : Int → Option β) : Ab.asInt kd (.int kd n) k = k n := by simp [Ab.asInt]
theorem aB (b : Bool) (k : Bool → Option β) : Ab.asBool (.bool b) k = k b := rfl
theorem aS (b : List UInt8) (k : List UInt8 → Option β) : asStr (.str b) k = k b := rfl
theorem aP (b : Option (Nat × Nat)) (k : Option (Nat × Nat) → Option β) : asPtr (.ptr b) k = k b := rfl
theorem aL (a : Option (Nat × Nat)) (l : Nat) (c : Option Nat) (k : Option (Nat × Nat) → Nat → Option Nat → Option β) : asSl (.slice a l c) k = k a l c := rfl
theorem aG (b : List AV) (k : List AV → Option β) : Ab.asAgg (.agg b) k = k b := rfl
theorem aT (b : List AV) (k : List AV → Option β) : asTup (.tup b) k = k b := rfl
theorem aM (b : Option Nat) (k : Option Nat → Option β) : asMap (.map b) k = k b := rfl
theorem aC (x : AV) (r : List AV) (k : AV → List AV → Option β) : asCons (x :: r) k = k x r := rfl
theorem aN (k : Option β) : asNil [] k = k := rfl
theorem iT (x y : α) : ifB true x y = x := rfl
theorem iF (x y : α) : ifB false x y = y := rfl
theorem nT (k : Option β) : needB true k = k := rfl
theorem sT (k : Option β) : sureB true k = k := rfl
theorem eS {R : Type} (a : α) (n : R) (f : α → R) : elimO (some a) n f = f a := rfl
theorem eN {R : Type} (n : R) (f : α → R) : elimO none n f = n := rfl
theorem gC (c : List AV) (s : Nat) (l : Cl) (k : List AV → Nat → Cl → Option β) : getCells (some (.cells c s l)) k = k c s l := rfl
theorem beqA_int (k : IntKind) (n : Int) : beqA 9 (.int k n) (.int k n) = true := by simp [beqA]
theorem beqA_bool (b : Bool) : beqA 9 (.bool b) (.bool b) = true := by simp [beqA]
theorem beqA_ptr (p : Option (Nat × Nat)) : beqA 9 (.ptr p) (.ptr p) = true := by simp [beqA]
theorem beqA_sl (p : Option (Nat × Nat)) (l : Nat) (c : Option Nat) : beqA 9 (.slice p l c) (.slice p l c) = true := by simp [beqA]
theorem row_cells {M : AMem} {a : Nat} {c : List AV} {s : Nat} {l : Cl} (h : M.get a = some (.cells c s l)) : M.row a = some c := by unfold AMem.row; rw [h]
theorem row_ro {M : AMem} {a : Nat} {c : List AV} (h : M.get a = some (.ro c)) : M.row a = some c := by unfold AMem.row; rw [h]
theorem z0 : (((0 : Int) == 0) == true) = true := rfl
theorem z1 : ((0 : Int) == 0) = true := rfl
theorem z2 : ((0 : Int) != 0) = false := rfl
theorem dnat (q : Nat) : decide ((0 : Int) ≤ (q : Int)) = true := by simp
theorem dlt {q n : Nat} (h : q < n) : decide ((q : Int) < (n : Int)) = true := by simpa using h
theorem tt : (true == true) = true := rfl
theorem ft : (false == true) = false := rfl
theorem tf : (true == false) = false := rfl
theorem ff : (false == false) = true := rfl
end steps

theorem wrap_i64 {x : Int} (h1 : -9223372036854775808 ≤ x) (h2 : x < 9223372036854775808) : IntKind.i64.wrap x = x := by
  have e : IntKind.i64.wrap x = if (9223372036854775808 : Int) ≤ x % 18446744073709551616 then x % 18446744073709551616 - 18446744073709551616 else x % 18446744073709551616 := by
    unfold IntKind.wrap
    simp [IntKind.signed, IntKind.bits]
  rw [e]; split <;> omega

/-! ### values that hold no address; calls that look at nothing but the globals -/
def closedA : AV → Bool
  | .bool _ | .int _ _ | .str _ | .ptr none | .slice none 0 (some 0) | .map none | .nilFunc | .nilIface => true
  | _ => false

theorem VR.closed {ρ ρ' : Loc} {x : AV} {v : Value} (h : closedA x = true) (hv : VR ρ x v) : VR ρ' x v := by
  cases hv with
  | bool b => exact .bool b
  | int k n => exact .int k n
  | str s => exact .str s
  | pnil => exact .pnil
  | slnil => exact .slnil
  | mnil => exact .mnil
  | nilFunc => exact .nilFunc
  | nilIface => exact .nilIface
  | _ => simp [closedA] at h

theorem VL.closed {ρ ρ' : Loc} {xs : List AV} {vs : List Value} (h : xs.all closedA = true) (hv : VL ρ xs vs) : VL ρ' xs vs :=
  ⟨hv.1, fun i x y hx hy => (hv.2 i x y hx hy).closed (List.all_eq_true.1 h x (List.mem_of_getElem? hx))⟩

/-- the memory holds what 'M0' holds, and 'M0' is closed and only read -/
structure Roots (M0 M : AMem) : Prop where
  next : M0.next ≤ M.next
  sub : ∀ α B, M0.get α = some B → M.get α = some B
  ro : ∀ α B, M0.get α = some B → α < M0.next ∧ ∃ c, B = .ro c ∧ c.all closedA = true

theorem Sim.below {ρ : Loc} {M : AMem} {w w' : World} (s : Sim ρ M w) (hb : RowKit.Below w.heap.size w w') : Sim ρ M w' :=
  ⟨s.dom, fun α l h => Nat.lt_of_lt_of_le (s.inb α l h) hb.size, fun α l B h1 h2 => BlkR.mono (Loc.le_refl ρ) (hb.block l.b (s.inb α l h1)) (s.blk α l B h1 h2), s.sep, s.wf⟩

theorem Ext.of_below {ρ : Loc} {M : AMem} {w w' : World} (hb : RowKit.Below w.heap.size w w') : Ext ρ M w ρ M w' :=
  ⟨Loc.le_refl ρ, Nat.le_refl _, hb.size, hb.os, hb.tape, hb.output, fun _ _ _ h => h, fun α l h1 h2 => (by rw [h1] at h2; cases h2), fun b h _ => hb.block b h⟩

/-- a call that is answered over the globals alone is answered so over any memory, and leaves it as it is -/
theorem pure_call {P : Program} (hm : P.follows .mixedOrders = true) {hook : Hook} (hh : HookOk P hook) {n : Nat} {f : FuncId} {args : List AV} {v : AV} {M0 M0' : AMem}
    (h : acall P hook n f args M0 = some (v, M0')) (ha : args.all closedA = true) (hc : closedA v = true) (hgl : gN P ≤ M0.next) {M : AMem} (hr : Roots M0 M)
    {ρ : Loc} {w : World} {vs : List Value} (s : Sim ρ M w) (hg : GlobR P ρ) (hv : VL ρ args vs) :
    Calls P f vs.toArray w (fun e w' => ∃ ρ' x, e = .returned x ∧ VR ρ' v x ∧ Sim ρ' M w' ∧ Ext ρ M w ρ' M w') := by
  have hown : ∀ α, M0.own α = false := fun α => by
    unfold AMem.own
    cases e : M0.get α with
    | none => rfl
    | some B => obtain ⟨_, c, rfl, _⟩ := hr.ro α B e; rfl
  let ρ0 : Loc := fun α => if α < M0.next then ρ α else none
  have h0 : ∀ α l, ρ0 α = some l → α < M0.next ∧ ρ α = some l := fun α l e => by
    by_cases q : α < M0.next
    · exact ⟨q, by simpa [ρ0, q] using e⟩
    · simp [ρ0, q] at e
  have s0 : Sim ρ0 M0 w := by
    refine ⟨fun α l e => (h0 α l e).1, fun α l e => s.inb α l (h0 α l e).2, fun α l B e hB => ?_, fun α β l k _ _ _ _ ho => ?_, fun α hα => ?_⟩
    · obtain ⟨_, c, rfl, hcl⟩ := hr.ro α B hB
      have hb := s.blk α l _ (h0 α l e).2 (hr.sub α _ hB)
      cases hb with
      | ro _ _ C e' fz h1 h2 h3 => exact .ro c l C e' fz h1 (h2.closed hcl) h3
    · rw [hown] at ho; cases ho
    · cases e : M0.get α with
      | none => rfl
      | some B => have := (hr.ro α B e).1; omega
  have hg0 : GlobR P ρ0 := fun g e => by
    have : g < M0.next := by omega
    simp only [ρ0, if_pos this]
    exact hg g e
  refine (acall_sound hm hh n f args M0 _ _ h ρ0 w vs s0 hg0 (hv.closed ha)).mono ?_
  rintro e w' ⟨ρ', x, rfl, hx, _, he⟩
  have hb := he.below hown
  exact ⟨ρ, x, rfl, hx.closed hc, s.below hb, Ext.of_below hb⟩

/-- the hook that answers some functions so -/
noncomputable def pureHook (fs : List FuncId) (v0 : AV) (M0 : AMem) : Hook := fun f =>
  if f ∈ fs then some (fun args M => open Classical in if args = [] ∧ Roots M0 M then some (v0, M) else none) else none

theorem pureHook_ok {P : Program} (hm : P.follows .mixedOrders = true) {n : Nat} {fs : List FuncId} {v0 : AV} {M0 : AMem}
    (h : ∀ f ∈ fs, ∃ M0', acall P noH n f [] M0 = some (v0, M0')) (hc : closedA v0 = true) (hgl : gN P ≤ M0.next) : HookOk P (pureHook fs v0 M0) := by
  intro f args M v M' hq ρ w vs s hg hv
  simp only [pureHook] at hq
  by_cases e : f ∈ fs
  · rw [if_pos e] at hq
    simp only [Option.bind_some] at hq
    split at hq
    · rename_i hr
      obtain ⟨rfl, hr⟩ := hr
      simp only [Option.some.injEq, Prod.mk.injEq] at hq
      obtain ⟨rfl, rfl⟩ := hq
      obtain ⟨M0', h0⟩ := h f e
      exact pure_call hm (hook := noH) noHook h0 rfl hc hgl hr s hg hv
    · cases hq
  · rw [if_neg e] at hq; cases hq

theorem pureHook_call {P : Program} {fs : List FuncId} {f0 : FuncId} {v0 : AV} {M0 M : AMem} (hf : f0 ∈ fs) (hr : Roots M0 M) (n : Nat) : acall P (pureHook fs v0 M0) (n + 1) f0 [] M = some (v0, M) := by
  rw [acall]
  simp [pureHook, hf, hr]
end Go.Ab
