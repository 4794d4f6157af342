/-
  Code, bodies, calls: the evaluator is sound.
-/
import Derived.Test.YtccmopkjkmpaaaaGreatDoorAbDraw
import Derived.Deep.LoopGhost
namespace Go.Ab
set_option linter.unusedSimpArgs false
set_option linter.unusedVariables false

def AExit.up : AExit → Exit
  | .normal => .normal
  | .exit id => .exit id
  | .ret => .ret

section
variable {P : Program} {β : Type} {r : β} {nt : Nat} {call : CallA}

/-- what is known where a code ends -/
def After (β : Type) (r : β) (nt : Nat) (k : AExit → Fr → AMem → Option β) (ρ : Loc) (M : AMem) (w : World) (ds : List Deferred) : Exit → Act → World → Prop :=
  fun E a' w' => ∃ e fr' M' ρ', E = AExit.up e ∧ k e fr' M' = some r ∧ Sim ρ' M' w' ∧ FrR ρ' nt fr' a'.tmps ∧ Ext ρ M w ρ' M' w' ∧ a'.defers = ds

theorem FrR.outer {ρ : Loc} {fr : Fr} {tmps : Array Value} (hf : FrR ρ nt fr tmps) (vars : List Nat) (c : Code) : FrR ρ nt (outerFr vars c fr) tmps := by
  unfold outerFr
  split
  · exact hf
  · exact hf.keep _ .nil (FrR.nil ρ nt _ hf.size)

theorem loopK_sound {c : Code} {body : Fr → AMem → (AExit → Fr → AMem → Option β) → Option β}
    (hb : ∀ {ρ : Loc} {M : AMem} {w : World} {a : Act} {fr : Fr} {k : AExit → Fr → AMem → Option β}, Sim ρ M w → GlobR P ρ → FrR ρ nt fr a.tmps → body fr M k = some r → c.wp P (After β r nt k ρ M w a.defers) a w)
    {k : AExit → Fr → AMem → Option β} {ρ : Loc} {M : AMem} {w : World} {a : Act} {fr : Fr} {vars : List Nat} {n : Nat} (s : Sim ρ M w) (hg : GlobR P ρ) (hf : FrR ρ nt fr a.tmps) (h : loopK body vars n fr M k = some r) :
    (Code.loop c).wp P (After β r nt k ρ M w a.defers) a w := by
  refine wp_loop_ghost (fun m a1 w1 => ∃ ρ1 M1 fr1, Sim ρ1 M1 w1 ∧ FrR ρ1 nt fr1 a1.tmps ∧ Ext ρ M w ρ1 M1 w1 ∧ a1.defers = a.defers ∧ loopK body vars m fr1 M1 k = some r) n ⟨ρ, M, fr, s, hf, Ext.refl _ _ _, rfl, h⟩ ?_
  rintro m a1 w1 ⟨ρ1, M1, fr1, s1, hf1, e1, d1, h1⟩
  cases m with
  | zero => unfold loopK at h1; cases h1
  | succ m =>
    unfold loopK at h1
    refine wp_mono (hb s1 (hg.mono e1.sub) hf1 h1) ?_
    rintro E a2 w2 ⟨e, fr2, M2, ρ2, rfl, h2, s2, hf2, e2, d2⟩
    cases e with
    | normal => exact ⟨m, Nat.lt_succ_self m, ρ2, M2, _, s2, hf2.keep vars .nil (FrR.nil ρ2 nt _ hf2.size), Ext.trans e1 e2, d2.trans d1, h2⟩
    | exit id => exact ⟨.exit id, _, M2, ρ2, rfl, h2, s2, hf2.keep vars .nil (FrR.nil ρ2 nt _ hf2.size), Ext.trans e1 e2, d2.trans d1⟩
    | ret => exact ⟨.ret, _, M2, ρ2, rfl, h2, s2, hf2.keep vars .nil (FrR.nil ρ2 nt _ hf2.size), Ext.trans e1 e2, d2.trans d1⟩

theorem codeK_sound (hm : P.follows .mixedOrders = true) (hc : CallOk P call) {vars : List Nat} {n : Nat} : ∀ (c : Code) {ρ : Loc} {M : AMem} {w : World} {a : Act} {fr : Fr} {k : AExit → Fr → AMem → Option β},
    Sim ρ M w → GlobR P ρ → FrR ρ nt fr a.tmps → codeK P call nt vars n c fr M k = some r → c.wp P (After β r nt k ρ M w a.defers) a w := by
  intro c
  induction c with
  | skip =>
    intro ρ M w a fr k s hg hf h
    exact wp_skip ⟨.normal, fr, M, ρ, rfl, h, s, hf, Ext.refl _ _ _, rfl⟩
  | label l =>
    intro ρ M w a fr k s hg hf h
    exact wp_label ⟨.normal, fr, M, ρ, rfl, h, s, hf, Ext.refl _ _ _, rfl⟩
  | ret =>
    intro ρ M w a fr k s hg hf h
    exact wp_ret ⟨.ret, fr, M, ρ, rfl, h, s, hf, Ext.refl _ _ _, rfl⟩
  | exit id =>
    intro ρ M w a fr k s hg hf h
    exact wp_exit ⟨.exit id, fr, M, ρ, rfl, h, s, hf, Ext.refl _ _ _, rfl⟩
  | seq x y ihx ihy =>
    intro ρ M w a fr k s hg hf h
    unfold codeK at h
    refine wp_seq (wp_mono (ihx s hg hf h) ?_)
    rintro E a1 w1 ⟨e, fr1, M1, ρ1, rfl, h1, s1, hf1, e1, d1⟩
    cases e with
    | normal =>
      refine wp_mono (ihy s1 (hg.mono e1.sub) hf1 h1) ?_
      rintro E a2 w2 ⟨e, fr2, M2, ρ2, rfl, h2, s2, hf2, e2, d2⟩
      exact ⟨e, fr2, M2, ρ2, rfl, h2, s2, hf2, Ext.trans e1 e2, d2.trans d1⟩
    | exit id => exact ⟨.exit id, fr1, M1, ρ1, rfl, h1, s1, hf1, e1, d1⟩
    | ret => exact ⟨.ret, fr1, M1, ρ1, rfl, h1, s1, hf1, e1, d1⟩
  | cond c x y ihx ihy =>
    intro ρ M w a fr k s hg hf h
    unfold codeK at h
    obtain ⟨v, hv, h⟩ := bindO_some h
    obtain ⟨b, rfl, h⟩ := asBool_some h
    have hb := (evA_sound (a := a) hg hf hv).bool_inv
    cases b with
    | true => exact wp_cond_true hb (ihx s hg hf h)
    | false => exact wp_cond_false hb (ihy s hg hf h)
  | block id c ih =>
    intro ρ M w a fr k s hg hf h
    unfold codeK at h
    refine wp_block (wp_mono (ih s hg hf h) ?_)
    rintro E a1 w1 ⟨e, fr1, M1, ρ1, rfl, h1, s1, hf1, e1, d1⟩
    cases e with
    | normal => exact ⟨.normal, _, M1, ρ1, rfl, h1, s1, hf1.outer vars c, e1, d1⟩
    | exit id' =>
      simp only [AExit.up, Exit.inBlock]
      simp only at h1
      by_cases q : id' = id
      · subst q
        rw [if_pos rfl]
        rw [show Nat.beq id' id' = true from Nat.beq_refl id'] at h1
        exact ⟨.normal, _, M1, ρ1, rfl, h1, s1, hf1.outer vars c, e1, d1⟩
      · rw [if_neg q]
        have hq : Nat.beq id' id = false := by
          cases hh : Nat.beq id' id with
          | false => rfl
          | true => exact absurd (Nat.eq_of_beq_eq_true hh) q
        rw [hq] at h1
        exact ⟨.exit id', fr1, M1, ρ1, rfl, h1, s1, hf1, e1, d1⟩
    | ret => exact ⟨.ret, fr1, M1, ρ1, rfl, h1, s1, hf1, e1, d1⟩
  | loop c ih =>
    intro ρ M w a fr k s hg hf h
    unfold codeK at h
    exact loopK_sound (vars := keptOf fr vars) (body := fun fr M k => codeK P call nt vars n c fr M k) (fun {ρ M w a fr k} s hg hf h => ih s hg hf h) s hg (hf.keep vars .nil (FrR.nil ρ nt _ hf.size)) h
  | region id ops draw =>
    intro ρ M w a fr k s hg hf h
    unfold codeK at h
    have hq : ∀ (fr' : Fr) (M' : AMem) (ρ' : Loc) (a' : Act) (w' : World), k .normal fr' M' = some r → Sim ρ' M' w' → FrR ρ' nt fr' a'.tmps → Ext ρ M w ρ' M' w' → a'.defers = a.defers → After β r nt k ρ M w a.defers .normal a' w' :=
      fun fr' M' ρ' a' w' h1 h2 h3 h4 h5 => ⟨.normal, fr', M', ρ', rfl, h1, h2, h3, h4, h5⟩
    cases draw with
    | false => exact region_plain_sound hc s hg hf h hq
    | true => exact region_draw_sound hm hc s hg hf h hq
  | rangeFunc f ps x y _ _ => intro ρ M w a fr k s hg hf h; unfold codeK at h; cases h
  | scope c _ => intro ρ M w a fr k s hg hf h; unfold codeK at h; cases h
  | goto l => intro ρ M w a fr k s hg hf h; unfold codeK at h; cases h
  | refuse why => intro ρ M w a fr k s hg hf h; unfold codeK at h; cases h

/-! ### bodies -/
theorem frOf_get : ∀ (args : List AV) (i : Nat) (fr : Fr) (x : Nat), (frOf i args fr).get x = if i ≤ x ∧ x < i + args.length then args[x - i]? else fr.get x := by
  intro args
  induction args with
  | nil => intro i fr x; simp only [frOf, List.length_nil, Nat.add_zero]; rw [if_neg (by omega)]
  | cons v args ih =>
    intro i fr x
    simp only [frOf]
    rw [ih, Tri.get_set]
    by_cases e : x = i
    · subst e
      rw [if_neg (by omega), if_pos rfl, if_pos (by simp)]
      simp
    · rw [if_neg e]
      simp only [List.length_cons]
      by_cases q : i + 1 ≤ x ∧ x < i + 1 + args.length
      · rw [if_pos q, if_pos (by omega)]
        have : x - i = (x - (i + 1)) + 1 := by omega
        rw [this, List.getElem?_cons_succ]
      · rw [if_neg q, if_neg (by omega)]

theorem FrR.enter {ρ : Loc} {args : List AV} {vs : List Value} (hv : VL ρ args vs) (hle : args.length ≤ nt) : FrR ρ nt (frOf 0 args .nil) (vs.toArray ++ Array.replicate (nt - vs.toArray.size) undef) := by
  refine ⟨by have := hv.1; simp; omega, fun t v ht => ?_⟩
  rw [frOf_get] at ht
  split at ht
  · rename_i q
    obtain ⟨y, hy, hvy⟩ := hv.get ht
    have hlt : t - 0 < vs.length := by
      have := List.getElem?_eq_some_iff.1 hy
      exact this.1
    have : (vs.toArray ++ Array.replicate (nt - vs.toArray.size) undef).getD t undef = y := by
      rw [Array.getD_eq_getD_getElem?, Array.getElem?_append_left (by simpa using hlt)]
      simp only [Nat.sub_zero] at hy
      simp [hy]
    rw [this]; exact hvy
  · rw [Tri.get_nil] at ht; cases ht

/-- one result -/
def resOne (tmps : Array Value) : ResultVar → Sem Value
  | .tmp t => pure (tmps.getD t undef)
  | .cell a t => do loadVar t (← asAddr (tmps.getD a undef))

theorem results_def (fn : Func) (tmps : Array Value) : results fn tmps = (do
    let vs ← fn.results.mapM (resOne tmps)
    pure (if h : vs.size = 1 then vs[0] else .tuple vs)) := rfl

theorem resultsK_sound {ρ : Loc} {M : AMem} {w : World} {fr : Fr} {tmps : Array Value} (s : Sim ρ M w) (hf : FrR ρ nt fr tmps) : ∀ (l : List ResultVar) {k : List AV → Option β}, resultsK P M fr l k = some r →
    ∃ vs xs, k vs = some r ∧ VL ρ vs xs ∧ (l.mapM (resOne tmps)).run P w = .ok xs w := by
  intro l
  induction l with
  | nil => intro k h; exact ⟨[], [], h, VL.nil ρ, rfl⟩
  | cons x l ih =>
    intro k h
    have fin : ∀ {v : AV} {y : Value}, (resOne tmps x).run P w = .ok y w → VR ρ v y → resultsK P M fr l (fun vs => k (v :: vs)) = some r → ∃ vs xs, k vs = some r ∧ VL ρ vs xs ∧ ((x :: l).mapM (resOne tmps)).run P w = .ok xs w := by
      intro v y h1 h2 h3
      obtain ⟨vs, xs, q1, q2, q3⟩ := ih h3
      refine ⟨v :: vs, y :: xs, q1, VL.cons h2 q2, ?_⟩
      simp only [List.mapM_cons, Sem.run_bind, h1, Result.andThen_ok, q3, Sem.run_pure]
    cases x with
    | tmp t =>
      unfold resultsK at h
      obtain ⟨v, h1, h⟩ := bindO_some h
      exact fin (by simp [resOne]) (hf.val t v h1) h
    | cell a t =>
      unfold resultsK at h
      obtain ⟨v, h1, h⟩ := bindO_some h
      obtain ⟨p, rfl, h⟩ := asPtr_some h
      obtain ⟨⟨α, o⟩, rfl, h⟩ := bindO_some h
      obtain ⟨v, h2, h⟩ := bindO_some h
      have h3 := shK_some h
      obtain ⟨l', hl, hp⟩ := (hf.val a _ h1).ptr_inv
      obtain ⟨x, hx, hvx⟩ := run_loadA (P := P) s hl h2
      refine fin (y := x) ?_ hvx h3
      simp only [resOne, hp, Sem.run_bind, asAddr, Sem.run_pure, Result.andThen_ok]
      exact hx

theorem results_sound {ρ : Loc} {M : AMem} {w : World} {fr : Fr} {tmps : Array Value} (s : Sim ρ M w) (hf : FrR ρ nt fr tmps) {fn : Func} {k : AV → Option β} (h : resultsK P M fr fn.results.toList (fun vs => k (packA vs)) = some r) :
    ∃ v x, k v = some r ∧ VR ρ v x ∧ (results fn tmps).run P w = .ok x w := by
  obtain ⟨vs, xs, h1, h2, h3⟩ := resultsK_sound s hf _ h
  refine ⟨packA vs, if h : xs.toArray.size = 1 then xs.toArray[0] else .tuple xs.toArray, h1, ?_, ?_⟩
  · cases vs with
    | nil => obtain rfl := h2.list_nil; exact (VL.nil ρ).tup
    | cons v vs =>
      obtain ⟨y, ys, rfl, hy, hys⟩ := h2.list_cons
      cases vs with
      | nil => obtain rfl := hys.list_nil; simpa [packA] using hy
      | cons v2 vs =>
        obtain ⟨y2, ys2, rfl, hy2, hys2⟩ := hys.list_cons
        rw [dif_neg (by simp)]
        exact h2.tup
  · rw [results_def, Sem.run_bind, Array.mapM_eq_mapM_toList, Sem.run_map, h3]
    rfl

theorem bodyA_sound (hm : P.follows .mixedOrders = true) (hc : CallOk P call) {n : Nat} {f : FuncId} {fn : Func} {args : List AV} {M M' : AMem} {v : AV} (hfn : P.funcs[f]? = some fn) (h : bodyA P call n fn args M = some (v, M'))
    {ρ : Loc} {w : World} {vs : List Value} (s : Sim ρ M w) (hg : GlobR P ρ) (hv : VL ρ args vs) :
    Calls P f vs.toArray w (fun e w' => ∃ ρ' x, e = .returned x ∧ VR ρ' v x ∧ Sim ρ' M' w' ∧ Ext ρ M w ρ' M' w') := by
  unfold bodyA at h
  obtain ⟨c, hcd, h⟩ := bindO_some h
  obtain ⟨hle, h⟩ := sureB_some h
  have hle' : args.length ≤ fn.ntmps := by
    simp only [Bool.not_eq_true'] at hle
    have : ¬ fn.ntmps < args.length := fun hh => by rw [show Nat.blt fn.ntmps args.length = true from by simpa using hh] at hle; cases hle
    omega
  refine calls_of_wp hfn hcd ?_
  have hf := FrR.enter (nt := fn.ntmps) hv hle'
  refine wp_mono (codeK_sound hm hc c (a := ⟨vs.toArray ++ Array.replicate (fn.ntmps - vs.toArray.size) undef, []⟩) s hg hf h) ?_
  rintro E a' w' ⟨e, fr', M2, ρ', rfl, h1, s', hf', e', d'⟩
  have fin : resultsK P M2 fr' fn.results.toList (fun vs => some (packA vs, M2)) = some (v, M') → a'.defers = [] ∧ ∃ x, (results fn a'.tmps).run P w' = .ok x w' ∧ (fun (e : Ending) w' => ∃ ρ' x, e = .returned x ∧ VR ρ' v x ∧ Sim ρ' M' w' ∧ Ext ρ M w ρ' M' w') (.returned x) w' := by
    intro h2
    obtain ⟨v2, x, h3, h4, h5⟩ := results_sound (P := P) (k := fun v => some (v, M2)) s' hf' h2
    cases h3
    exact ⟨d', x, h5, ρ', x, rfl, h4, s', e'⟩
  cases e with
  | normal => exact fin h1
  | exit id => cases h1
  | ret => exact fin h1

def HookOk (P : Program) (hook : Hook) : Prop := CallOk P fun f args M => (hook f).bind fun h => h args M

theorem acall_sound (hm : P.follows .mixedOrders = true) {hook : Hook} (hh : HookOk P hook) : ∀ n, CallOk P (acall P hook n) := by
  intro n
  induction n with
  | zero => intro f args M v M' h; unfold acall at h; cases h
  | succ n ih =>
    intro f args M v M' h ρ w vs s hg hv
    unfold acall at h
    split at h
    · rename_i hk hf
      exact hh f args M v M' (by simp only [hf, Option.bind_some]; exact h) ρ w vs s hg hv
    · obtain ⟨fn, hfn, h⟩ := bindO_some h
      exact bodyA_sound hm ih hfn h s hg hv

theorem noHook : HookOk P (fun _ => none) := fun f args M v M' h => by cases h
end
end Go.Ab
