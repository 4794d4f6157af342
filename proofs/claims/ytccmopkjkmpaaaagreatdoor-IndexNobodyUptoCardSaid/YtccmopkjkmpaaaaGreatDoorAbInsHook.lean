/-
  slices.Insert of one element as a hook: the two runs are told by terms that the kernel can compare.
-/
import Derived.Test.YtccmopkjkmpaaaaGreatDoorAbIns
namespace Go.Ab
set_option linter.unusedVariables false
set_option linter.unusedSimpArgs false

/-- what of a run's answer is looked at -/
def insR (α : Nat) : Option (AV × AMem) → Option (Nat × Nat × Nat × Option Nat × Option ABlk)
  | some (.slice (some (γ, o)) l k, M) => some (γ, o, l, k, M.get γ)
  | _ => none

theorem insR_some {α γ o l : Nat} {k : Option Nat} {B : Option ABlk} {x : Option (AV × AMem)} (h : insR α x = some (γ, o, l, k, B)) : ∃ M, x = some (.slice (some (γ, o)) l k, M) ∧ M.get γ = B := by
  unfold insR at h
  split at h
  · cases h
    exact ⟨_, rfl, rfl⟩
  · cases h

def Ins.numB (c : Ins) : Bool := Nat.blt 0 c.size && (Nat.beq c.cs.length (c.n * c.size) && (Nat.blt c.α c.nin && (Nat.blt c.β c.nin && (!Nat.beq c.α c.β && (Nat.blt 0 c.α && c.content.all closedA)))))

theorem Ins.num_of {c : Ins} (h : c.numB = true) : c.size ≠ 0 ∧ c.cs.length = c.n * c.size ∧ c.α < c.nin ∧ c.β < c.nin ∧ c.α ≠ c.β ∧ c.α ≠ 0 ∧ c.content.all closedA = true := by
  unfold Ins.numB at h
  simp only [Bool.and_eq_true, Bool.not_eq_true', Nat.blt_eq] at h
  obtain ⟨h1, h2, h3, h4, h5, h6, h7⟩ := h
  refine ⟨by omega, Nat.eq_of_beq_eq_true h2, h3, h4, fun e => ?_, by omega, h7⟩
  rw [e, Nat.beq_refl] at h5
  cases h5

theorem Ins.ok_of {c : Ins} {call : CallA} {f : FuncId} (h : c.numB = true) {γ : Nat} (ht : insR c.α (call f (c.args (some c.n)) (memOf c.nin (c.lin []))) = some (γ, 0, c.n + 1, none, some (.cells c.content c.size .yes))) (hγ : Nat.ble c.nin γ = true)
    (hr : ∀ d z, z.length = c.size → insR c.α (call f (c.args (some (d + (c.n + 1)))) (memOf c.nin (c.lin z))) = some (c.α, 0, c.n + 1, some (d + (c.n + 1)), some (.cells c.content c.size .yes))) : c.Ok call f := by
  refine ⟨Ins.num_of h, ?_, fun d z hz => ?_⟩
  · obtain ⟨M, e1, e2⟩ := insR_some ht
    exact ⟨γ, M, e1, e2, Nat.le_of_ble_eq_true hγ⟩
  · obtain ⟨M, e1, e2⟩ := insR_some (hr d z hz)
    rw [show c.n + 1 + d = d + (c.n + 1) by omega]
    exact ⟨M, e1, e2⟩

theorem list_1 {z : List AV} (h : z.length = 1) : ∃ a, z = [a] := by
  match z, h with
  | [a], _ => exact ⟨a, rfl⟩
theorem list_2 {z : List AV} (h : z.length = 2) : ∃ a b, z = [a, b] := by
  match z, h with
  | [a, b], _ => exact ⟨a, b, rfl⟩
theorem list_3 {z : List AV} (h : z.length = 3) : ∃ a b c, z = [a, b, c] := by
  match z, h with
  | [a, b, c], _ => exact ⟨a, b, c, rfl⟩

/-- the hook: an insertion that fits is answered at once, else the call itself -/
def insAt (cs : List Ins) (other : List AV → AMem → Option (AV × AMem)) : List AV → AMem → Option (AV × AMem) := fun args M =>
  match cs with
  | [] => other args M
  | c :: r => match c.fits args M with
    | true => some (.slice (some (c.nin, 0)) (c.n + 1) none, insMem M c.α c.β (c.nin + 1) c.content c.size)
    | false => insAt r other args M

theorem insAt_sound {P : Program} {call : CallA} (hc : CallOk P call) {f : FuncId} : ∀ {cs : List Ins}, (∀ c ∈ cs, c.Ok call f) →
    ∀ {args : List AV} {M : AMem} {v : AV} {M' : AMem}, insAt cs (call f) args M = some (v, M') → ∀ ρ w vs, Sim ρ M w → GlobR P ρ → VL ρ args vs →
    Calls P f vs.toArray w (fun e w' => ∃ ρ' x, e = .returned x ∧ VR ρ' v x ∧ Sim ρ' M' w' ∧ Ext ρ M w ρ' M' w')
  | [], _, args, M, v, M', h, ρ, w, vs, s, hg, hv => hc f args M v M' h ρ w vs s hg hv
  | c :: r, hcs, args, M, v, M', h, ρ, w, vs, s, hg, hv => by
    unfold insAt at h
    split at h
    · rename_i hf
      cases h
      exact ins_hook hc (hcs c (List.mem_cons_self ..)) hf (Nat.lt_succ_self _) s hg hv
    · exact insAt_sound hc (fun c hc => hcs c (List.mem_cons_of_mem _ hc)) h ρ w vs s hg hv
end Go.Ab
