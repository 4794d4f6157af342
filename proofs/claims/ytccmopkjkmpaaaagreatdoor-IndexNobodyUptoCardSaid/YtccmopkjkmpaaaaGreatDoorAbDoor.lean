/-
  The doors of the evaluator: how a row's start is read into the abstract memory, and what its end gives.
-/
import Derived.Test.YtccmopkjkmpaaaaGreatDoorAbRun
import Derived.ProofKit
import Derived.LaidMore
import Derived.OpenShut
import Derived.Stop.Joined
import Derived.KernelRfl
namespace Go.Ab
open Go.ChangeShapes Go.WideShapes Go.ChangeAt Go.RowKit
set_option linter.unusedSimpArgs false
set_option linter.unusedVariables false

/-- the numbers of the globals lie where they lie, nothing else does -/
def rhoG (n : Nat) : Loc := fun g => if g < n then some ⟨g, 0, 0, 0⟩ else none

theorem Sim.start {M : AMem} {w : World} (hsz : M.next ≤ w.heap.size) (hb : ∀ g B, M.get g = some B → g < M.next ∧ B.own = false ∧ BlkR (rhoG M.next) w B ⟨g, 0, 0, 0⟩) : Sim (rhoG M.next) M w := by
  have hr : ∀ α l, rhoG M.next α = some l → α < M.next ∧ l = ⟨α, 0, 0, 0⟩ := fun α l h => by
    unfold rhoG at h
    split at h
    · rename_i q; cases h; exact ⟨q, rfl⟩
    · cases h
  refine ⟨fun α l h => (hr α l h).1, fun α l h => ?_, fun α l B h hB => ?_, fun α β l k hne h1 h2 h3 _ => ?_, fun α hα => ?_⟩
  · obtain ⟨h1, rfl⟩ := hr α l h; exact Nat.lt_of_lt_of_le h1 hsz
  · obtain ⟨_, rfl⟩ := hr α l h; exact (hb α B hB).2.2
  · obtain ⟨_, rfl⟩ := hr α l h1
    obtain ⟨_, rfl⟩ := hr β k h2
    exact absurd h3 hne
  · cases e : M.get α with
    | none => rfl
    | some B => have := (hb α B e).1; omega

/-- a table of whole numbers, read off its datum -/
theorem ints_of_trod {H : Type} {enc : TypeId × Value → H} {P : Program} {w : World} {base fuel : Nat} {spare : Nat → Bool} {held : Bool} {k : IntKind} {e t : TypeId} {n : Nat} (ht : P.underlying t = some (.array n e)) (he : P.underlying e = some (.int k)) (hc : P.cellsOf e = 1) (hct : P.cellsOf t = n)
    {cs : List Value} {ns : List Int} {p : List MemPlace} (h : DataW.trod enc P w base spare held fuel t cs = some (.agg (ns.map fun n => .lit (.int k n)), p)) : cs = ns.map (Value.int k) := by
  obtain ⟨xs, m, rfl, hx, hlen, hn, hel⟩ := DataW.trod_array ht h
  simp only [Prod.mk.injEq, DataW.agg.injEq] at hx
  have hl : ns.length = n := by
    have := congrArg List.length hx.1
    simp at this; omega
  apply List.ext_getElem?
  intro i
  by_cases hi : i < n
  · have h1 := hel i hi
    rw [hc, Nat.mul_one] at h1
    have hxi : ∃ x, xs[i]? = some x := ⟨xs[i]'(by omega), List.getElem?_eq_getElem (by omega)⟩
    obtain ⟨x, hxi⟩ := hxi
    rw [hxi] at h1
    obtain ⟨q, e1, e2, _⟩ := DataW.trod_int he h1
    have h2 : (xs.map (·.1))[i]? = (ns.map fun n => (DataW.lit (.int k n) : DataW H))[i]? := by rw [hx.1]
    rw [List.getElem?_map, List.getElem?_map, hxi, e2] at h2
    have h3 : ns[i]? = some (ns[i]'(by omega)) := List.getElem?_eq_getElem (by omega)
    rw [h3] at h2
    simp only [Option.map_some, Option.some.injEq, DataW.lit.injEq, Lit.int.injEq, true_and] at h2
    have h4 : cs[i]? = some (.int k q) := by
      have := congrArg (fun l => l[0]?) e1
      simp only [List.getElem?_take, List.getElem?_drop, Nat.add_zero] at this
      simpa using this
    rw [h4, List.getElem?_map, h3, h2]; rfl
  · rw [List.getElem?_eq_none (by omega), List.getElem?_eq_none (by simp; omega)]

theorem VL.ints (ρ : Loc) (k : IntKind) : ∀ ns : List Int, VL ρ (ns.map (AV.int k)) (ns.map (Value.int k))
  | [] => VL.nil ρ
  | n :: ns => VL.cons (.int k n) (VL.ints ρ k ns)

/-- a variable that holds a table -/
theorem BlkR.table {ρ : Loc} {w : World} {g : Nat} {k : IntKind} {ns : List Int} {cs : Array Value} {P : Program} {name : String} (hg : P.globalNamed name = some g) (hv : w.var? P name = some cs) (hcs : cs.toList = ns.map (Value.int k)) :
    BlkR ρ w (.ro (ns.map (AV.int k))) ⟨g, 0, 0, 0⟩ := by
  simp only [World.var?, hg, Option.bind_some] at hv
  split at hv
  · rename_i c t fz hb
    cases hv
    refine .ro _ _ cs.toList t fz (by simpa using hb) ?_ rfl
    rw [hcs]
    have := VL.ints ρ k ns
    rw [List.drop_zero, List.take_of_length_le (by simp)]
    exact this
  · cases hv

def isT : Option (AV × AMem) → Bool
  | some (.bool true, _) => true
  | _ => false

/-- a call that the evaluator answers with 'true' -/
theorem calls_true {P : Program} (hm : P.follows .mixedOrders = true) {hook : Hook} (hh : HookOk P hook) {n : Nat} {f : FuncId} {args : List AV} {M : AMem} (h : isT (acall P hook n f args M) = true)
    {ρ : Loc} {w : World} {vs : List Value} (s : Sim ρ M w) (hg : GlobR P ρ) (hv : VL ρ args vs) (hro : ∀ α, M.own α = false) :
    Calls P f vs.toArray w (fun e w' => e = .returned (.bool true) ∧ Below w.heap.size w w') := by
  cases hr : acall P hook n f args M with
  | none => rw [hr] at h; cases h
  | some r =>
    obtain ⟨v, M'⟩ := r
    rw [hr] at h
    unfold isT at h
    split at h
    · rename_i M2 hv2
      simp only [Option.some.injEq, Prod.mk.injEq] at hv2
      obtain ⟨rfl, rfl⟩ := hv2
      refine Calls.mono (acall_sound hm hh n f args M _ _ hr ρ w vs s hg hv) ?_
      rintro e w' ⟨ρ', x, rfl, hx, _, he⟩
      exact ⟨by rw [hx.bool_inv], he.below hro⟩
    · cases h

/-- the row's end, where all that was there is as it was -/
theorem post_of_below {H : Type} {enc : TypeId × Value → H} {P : Program} {f : Func} {s : ChangeSpec} {apart fresh handsOn again : Bool} {W W' : World} {args : Array Value} {v : Value} {ds gs : List (DataW H)} {before pa pv : List MemPlace}
    (hW : DataW.Whole enc P f.params.toList s.vars apart W args.toList ds gs before) (hb : Below W.heap.size W W')
    (hres : ∀ (b : Nat) (sp : Nat → Bool) (hd : Bool), DataW.TrodAll enc P W' b sp hd f.resultTypes.toList (v.resultList f.resultTypes.size) (s.fn H (ds ++ gs)).results [])
    (hargs : ∀ sp : Nat → Bool, (∀ p ∈ before, sp p.block = true) → DataW.TrodAll enc P W' 0 sp true f.params.toList args.toList (s.fn H (ds ++ gs)).args pa)
    (hvars : ∀ sp : Nat → Bool, (∀ p ∈ before, sp p.block = true) → DataW.TrodVars enc P W' sp s.vars (s.fn H (ds ++ gs)).vars pv)
    (hps : before = pa ++ pv)
    (hok : ∀ (j : Nat) (t : TypeId) (r : Value), f.resultTypes[j]? = some t → (v.resultList f.resultTypes.size)[j]? = some r → Value.okWide P W' .any 0 t r) :
    s.post enc P f apart fresh handsOn again W args v W' := by
  have hold : ∀ p ∈ before, (fun b => decide (b < W.heap.size)) p.block = true := fun p hp => by simpa using hW.lt p hp
  have hlt := hW.lt
  refine ⟨ds, gs, before, [], pa, pv, hW, hres _ _ _, hargs _ hold, hvars _ hold, hb.frame _, fun _ => ?_⟩
  · obtain ⟨_, _, _, _, _, hz, hn⟩ := hW
    refine ⟨hok, _, _, ([] ++ pa) ++ pv, ⟨[] ++ pa, pv, trodAll_append (hargs _ (fun _ _ => rfl)) (hres _ _ _), hvars _ (fun _ _ => rfl), rfl, ?_, ?_⟩, ?_⟩
    · intro b off hp
      have hp' : MemPlace.cell b off ∈ before := by rw [hps]; simpa using hp
      rw [hb.frozen (hlt _ hp')]
      exact hz b off hp'
    · intro ha
      have := hn ha
      rw [hps] at this
      simpa using this
    · intro p hp _
      rw [hps]
      simpa using hp
end Go.Ab
