/-
  Calls, rows of operations in their order, and groups under a guard: the evaluator is sound.
-/
import Derived.Test.YtccmopkjkmpaaaaGreatDoorAbOpsI
import Derived.Tactics
namespace Go.Ab
set_option linter.unusedSimpArgs false
set_option linter.unusedVariables false

/-- what a call does, told by the evaluator -/
def CallOk (P : Program) (call : CallA) : Prop :=
  ∀ f args M v M', call f args M = some (v, M') → ∀ ρ w vs, Sim ρ M w → GlobR P ρ → VL ρ args vs →
    Calls P f vs.toArray w (fun e w' => ∃ ρ' x, e = .returned x ∧ VR ρ' v x ∧ Sim ρ' M' w' ∧ Ext ρ M w ρ' M' w')

section
variable {P : Program} {o : Oper} {a : Act} {ρ : Loc} {M : AMem} {w : World} {β : Type} {r : β} {nt : Nat} {fr : Fr} {call : CallA}

theorem doK_sound (hc : CallOk P call) (s : Sim ρ M w) (hg : GlobR P ρ) (hf : FrR ρ nt fr a.tmps) {k : AV → AMem → Option β} (h : doK P call fr M o k = some r)
    {K : Act → World → Prop} {Q : Exit → Act → World → Prop}
    (hk : ∀ v M' ρ' x w', k v M' = some r → VR ρ' v x → Sim ρ' M' w' → Ext ρ M w ρ' M' w' → K (a.put o.dst x) w') : o.wp P a w K Q := by
  unfold doK at h
  rcases opK_sound s hg hf h with ⟨v, M', h1, ⟨ρ', w', n, x, hr, hn, hv, s', e'⟩, _⟩ | ⟨f, args, h1, vs, hr, hv⟩
  · unfold Oper.wp
    rw [hr]
    rcases hn with rfl | ⟨rfl, rfl⟩
    · exact hk v M' ρ' x w' h1 hv s' e'
    · exact hk v M' ρ' _ w' h1 hv s' e'
  · obtain ⟨⟨v, M'⟩, h2, h3⟩ := bindO_some h1
    have h4 := shK_some h3
    unfold Oper.wp
    rw [hr]
    refine Calls.mono (hc f args M v M' h2 ρ w vs s hg hv) fun e w' he => ?_
    obtain ⟨ρ', x, rfl, hvx, s', e'⟩ := he
    exact hk v M' ρ' x w' h4 hvx s' e'

theorem put_defers (a : Act) (d : Option Tmp) (x : Value) : (a.put d x).defers = a.defers := by cases d <;> rfl

/-- is a guard's slot 'true' -/
theorem yielded_bool {ops : Array Oper} {j : Nat} {d : Tmp} {b : Bool} (hd : guardDst ops j = some d) (hf : FrR ρ nt fr a.tmps) (h : fr.get d = some (.bool b)) : yielded ops a.tmps j = some b := by
  have h1 := (hf.val d _ h).bool_inv
  unfold guardDst at hd
  unfold yielded
  rw [hd]
  have h2 : a.tmps[d]? = some (.bool b) := by
    rw [Array.getD_eq_getD_getElem?] at h1
    cases e : a.tmps[d]? with
    | none => rw [e] at h1; simp [undef] at h1
    | some x => rw [e] at h1; simp at h1; rw [h1]
  simp [h2]

theorem yielded_tup {ops : Array Oper} {j : Nat} {d : Tmp} {l : List AV} (hd : guardDst ops j = some d) (hf : FrR ρ nt fr a.tmps) (h : fr.get d = some (.tup l)) : yielded ops a.tmps j = none := by
  obtain ⟨ys, h1, _⟩ := (hf.val d _ h).tup_inv
  unfold guardDst at hd
  unfold yielded
  rw [hd]
  rw [Array.getD_eq_getD_getElem?] at h1
  cases e : a.tmps[d]? with
  | none => simp [e]
  | some x => rw [e] at h1; simp at h1; subst h1; simp [e]

/-- a row of operations that none passes over -/
theorem runK_none (hc : CallOk P call) {ops : Array Oper} {Q : Exit → Act → World → Prop} {rest : List Oper} : ∀ (l : List Oper), (∀ o ∈ l, o.guard = none) → ∀ {a : Act} {ρ : Loc} {M : AMem} {w : World} {fr : Fr} {k : Fr → AMem → Option β},
    Sim ρ M w → GlobR P ρ → FrR ρ nt fr a.tmps → runK P call nt l fr M k = some r →
    (∀ fr' M' ρ' a' w', k fr' M' = some r → Sim ρ' M' w' → FrR ρ' nt fr' a'.tmps → Ext ρ M w ρ' M' w' → a'.defers = a.defers → wpList P ops Q rest a' w') →
    wpList P ops Q (l ++ rest) a w := by
  intro l
  induction l with
  | nil => intro _ a ρ M w fr k s hg hf h hk; exact hk fr M ρ a w h s hf (Ext.refl _ _ _) rfl
  | cons o l ih =>
    intro hl a ρ M w fr k s hg hf h hk
    unfold runK at h
    rw [List.cons_append]
    unfold wpList
    have hgd := hl o (List.mem_cons_self ..)
    rw [if_pos (by simp [Region.wanted, hgd])]
    refine .inl (doK_sound hc s hg hf h fun v M' ρ' x w' h1 hv s' e' => ?_)
    obtain ⟨fr', h2, h3⟩ := bindO_some h1
    refine ih (fun o' ho' => hl o' (List.mem_cons_of_mem _ ho')) s' (hg.mono e'.sub) ((hf.mono e'.sub).put hv h2) h3 fun fr2 M2 ρ2 a2 w2 h5 h6 h7 h8 h9 => ?_
    exact hk fr2 M2 ρ2 a2 w2 h5 h6 h7 (e'.trans h8) (h9.trans (put_defers ..))

theorem runK_some (hc : CallOk P call) {ops : Array Oper} {Q : Exit → Act → World → Prop} {rest : List Oper} {j : Nat} {d : Tmp} {b : Bool} (hd : guardDst ops j = some d) : ∀ (l : List Oper), (∀ o ∈ l, o.guard = some (j, b)) → (l.all fun o => !(o.dst == some d)) = true →
    ∀ {a : Act} {ρ : Loc} {M : AMem} {w : World} {fr : Fr} {k : Fr → AMem → Option β},
    yielded ops a.tmps j = some b →
    Sim ρ M w → GlobR P ρ → FrR ρ nt fr a.tmps → runK P call nt l fr M k = some r →
    (∀ fr' M' ρ' a' w', k fr' M' = some r → Sim ρ' M' w' → FrR ρ' nt fr' a'.tmps → Ext ρ M w ρ' M' w' → a'.defers = a.defers → wpList P ops Q rest a' w') →
    wpList P ops Q (l ++ rest) a w := by
  intro l
  induction l with
  | nil => intro _ _ a ρ M w fr k _ s hg hf h hk; exact hk fr M ρ a w h s hf (Ext.refl _ _ _) rfl
  | cons o l ih =>
    intro hl hall a ρ M w fr k hy s hg hf h hk
    unfold runK at h
    rw [List.cons_append]
    unfold wpList
    have hgd := hl o (List.mem_cons_self ..)
    rw [if_pos (by simp [Region.wanted, hgd, hy])]
    rw [List.all_cons, Bool.and_eq_true] at hall
    refine .inl (doK_sound hc s hg hf h fun v M' ρ' x w' h1 hv s' e' => ?_)
    obtain ⟨fr', h2, h3⟩ := bindO_some h1
    refine ih (fun o' ho' => hl o' (List.mem_cons_of_mem _ ho')) hall.2 ?_ s' (hg.mono e'.sub) ((hf.mono e'.sub).put hv h2) h3 fun fr2 M2 ρ2 a2 w2 h5 h6 h7 h8 h9 => ?_
    · rw [← hy]
      unfold yielded
      unfold guardDst at hd
      rw [hd]
      cases ho : o.dst with
      | none => rfl
      | some d' =>
        have : d' ≠ d := fun e => by rw [ho, e] at hall; simp at hall
        simp [Act.put, Array.getElem?_setIfInBounds_ne this]
    · exact hk fr2 M2 ρ2 a2 w2 h5 h6 h7 (e'.trans h8) (h9.trans (put_defers ..))

theorem skipA_sound {ops : Array Oper} {Q : Exit → Act → World → Prop} {rest : List Oper} {j : Nat} {d : Tmp} {b : Bool} (hd : guardDst ops j = some d) : ∀ (l : List Oper), (∀ o ∈ l, o.guard = some (j, b)) → (l.all fun o => !(o.dst == some d)) = true →
    ∀ {a : Act} {ρ : Loc} {w : World} {fr fr' : Fr},
    yielded ops a.tmps j ≠ some b → FrR ρ nt fr a.tmps → skipA nt l fr = some fr' →
    (∀ a', FrR ρ nt fr' a'.tmps → a'.defers = a.defers → wpList P ops Q rest a' w) →
    wpList P ops Q (l ++ rest) a w := by
  intro l
  induction l with
  | nil => intro _ _ a ρ w fr fr' _ hf h hk; simp only [skipA, Option.some.injEq] at h; subst h; exact hk a hf rfl
  | cons o l ih =>
    intro hl hall a ρ w fr fr' hy hf h hk
    unfold skipA at h
    rw [List.cons_append]
    unfold wpList
    have hgd := hl o (List.mem_cons_self ..)
    rw [if_neg (by simp [Region.wanted, hgd]; exact hy)]
    rw [List.all_cons, Bool.and_eq_true] at hall
    split at h
    · rename_i fr1 h1
      refine ih (fun o' ho' => hl o' (List.mem_cons_of_mem _ ho')) hall.2 ?_ (hf.put (VR.undef ρ) h1) h fun a' h2 h3 => hk a' h2 (h3.trans (put_defers ..))
      intro he
      apply hy
      rw [← he]
      unfold yielded
      unfold guardDst at hd
      rw [hd]
      cases ho : o.dst with
      | none => rfl
      | some d' =>
        have : d' ≠ d := fun e => by rw [ho, e] at hall; simp at hall
        simp [Act.put, Array.getElem?_setIfInBounds_ne this]
    · cases h

theorem groups_spec : ∀ l : List Oper, (groups l).flatMap (·.2) = l ∧ ∀ g ∈ groups l, ∀ o ∈ g.2, o.guard = g.1 := by
  intro l
  induction l with
  | nil => exact ⟨rfl, fun g h => by simp [groups] at h⟩
  | cons o rest ih =>
    obtain ⟨h1, h2⟩ := ih
    unfold groups
    split
    · rename_i g l gs hgs
      rw [hgs] at h1 h2
      split
      · rename_i hg
        refine ⟨by simpa using h1, fun q hq => ?_⟩
        rcases List.mem_cons.1 hq with rfl | hq
        · intro o' ho'
          rcases List.mem_cons.1 ho' with rfl | ho'
          · exact hg.symm
          · exact h2 _ (List.mem_cons_self ..) o' ho'
        · exact h2 q (List.mem_cons_of_mem _ hq)
      · refine ⟨by simpa using h1, fun q hq => ?_⟩
        rcases List.mem_cons.1 hq with rfl | hq
        · intro o' ho'
          simp only [List.mem_singleton] at ho'
          subst ho'; rfl
        · exact h2 q hq
    · rename_i hgs
      rw [hgs] at h1 h2
      refine ⟨by simpa using h1, fun q hq => ?_⟩
      simp only [List.mem_singleton] at hq
      subst hq
      intro o' ho'
      simp only [List.mem_singleton] at ho'
      subst ho'; rfl

theorem groupsK_sound (hc : CallOk P call) {ops : Array Oper} {Q : Exit → Act → World → Prop} : ∀ (gs : List (Option (Nat × Bool) × List Oper)), (∀ g ∈ gs, ∀ o ∈ g.2, o.guard = g.1) →
    ∀ {a : Act} {ρ : Loc} {M : AMem} {w : World} {fr : Fr} {k : Fr → AMem → Option β},
    Sim ρ M w → GlobR P ρ → FrR ρ nt fr a.tmps → groupsK P call nt ops gs fr M k = some r →
    (∀ fr' M' ρ' a' w', k fr' M' = some r → Sim ρ' M' w' → FrR ρ' nt fr' a'.tmps → Ext ρ M w ρ' M' w' → a'.defers = a.defers → Q .normal a' w') →
    wpList P ops Q (gs.flatMap (·.2)) a w := by
  intro gs
  induction gs with
  | nil => intro _ a ρ M w fr k s hg hf h hk; exact hk fr M ρ a w h s hf (Ext.refl _ _ _) rfl
  | cons g gs ih =>
    intro hgs a ρ M w fr k s hg hf h hk
    have ih' := @ih (fun g' hg' => hgs g' (List.mem_cons_of_mem _ hg'))
    have hg1 := hgs g (List.mem_cons_self ..)
    have fin : ∀ {l : List Oper} {fr' : Fr} {M' : AMem} {ρ' : Loc} {a' : Act} {w' : World}, groupsK P call nt ops gs fr' M' k = some r → Sim ρ' M' w' → FrR ρ' nt fr' a'.tmps → Ext ρ M w ρ' M' w' → a'.defers = a.defers → wpList P ops Q (gs.flatMap (·.2)) a' w' :=
      fun h1 h2 h3 h4 h5 => ih' h2 (hg.mono h4.sub) h3 h1 fun fr2 M2 ρ2 a2 w2 h6 h7 h8 h9 h10 => hk fr2 M2 ρ2 a2 w2 h6 h7 h8 (h4.trans h9) (h10.trans h5)
    obtain ⟨gd, l⟩ := g
    rw [List.flatMap_cons]
    cases gd with
    | none =>
      unfold groupsK at h
      exact runK_none hc l hg1 s hg hf h fun fr' M' ρ' a' w' h1 h2 h3 h4 h5 => fin (l := l) h1 h2 h3 h4 h5
    | some jb =>
      obtain ⟨j, want⟩ := jb
      unfold groupsK at h
      split at h
      · cases h
      · rename_i d hd
        obtain ⟨hall, h⟩ := sureB_some h
        split at h
        · rename_i b hb
          have hy := yielded_bool hd hf hb
          have hfb : FrR ρ nt (fr.set d (.bool b)) a.tmps := ⟨hf.size, fun t v e => by
            rw [Tri.get_set] at e
            by_cases q : t = d
            · rw [if_pos q] at e; cases e; subst q; exact hf.val _ _ hb
            · rw [if_neg q] at e; exact hf.val t v e⟩
          have key : ∀ b', b' = b → (match (b' == want) with
              | true => runK P call nt l (fr.set d (.bool b')) M fun fr' M' => groupsK P call nt ops gs fr' M' k
              | false => goO (skipA nt l (fr.set d (.bool b'))) fun fr' => groupsK P call nt ops gs fr' M k) = some r → wpList P ops Q (l ++ gs.flatMap (·.2)) a w := by
            intro b' eb h0
            subst eb
            split at h0
            · rename_i hbw
              have hbw' : b' = want := by simpa using hbw
              exact runK_some hc hd l hg1 hall (by rw [hy, hbw']) s hg hfb h0 fun fr' M' ρ' a' w' h1 h2 h3 h4 h5 => fin (l := l) h1 h2 h3 h4 h5
            · rename_i hbw
              have hbw' : b' ≠ want := by simpa using hbw
              obtain ⟨fr', h1, h2'⟩ := bindO_some h0
              exact skipA_sound hd l hg1 hall (by rw [hy]; simpa using hbw') hfb h1 fun a' h2 h3 => fin (l := l) h2' s h2 (Ext.refl _ _ _) h3
          cases b with
          | true => exact key true rfl h
          | false => exact key false rfl h
        · rename_i tl hb
          have hy := yielded_tup hd hf hb
          obtain ⟨fr', h1, h⟩ := bindO_some h
          exact skipA_sound hd l hg1 hall (by rw [hy]; simp) hf h1 fun a' h2 h3 => fin (l := l) h s h2 (Ext.refl _ _ _) h3
        · cases h

theorem region_plain_sound (hc : CallOk P call) {ops : Array Oper} {Q : Exit → Act → World → Prop} {id : Nat} {k : Fr → AMem → Option β} (s : Sim ρ M w) (hg : GlobR P ρ) (hf : FrR ρ nt fr a.tmps)
    (h : groupsK P call nt ops (groups ops.toList) fr M k = some r)
    (hk : ∀ fr' M' ρ' a' w', k fr' M' = some r → Sim ρ' M' w' → FrR ρ' nt fr' a'.tmps → Ext ρ M w ρ' M' w' → a'.defers = a.defers → Q .normal a' w') :
    (Code.region id ops false).wp P Q a w := by
  obtain ⟨h1, h2⟩ := groups_spec ops.toList
  apply wp_region_list
  have := groupsK_sound (Q := Q) hc (groups ops.toList) h2 s hg hf h hk
  rw [h1] at this
  exact this
end
end Go.Ab
