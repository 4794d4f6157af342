/-
  What single operations come to, under the simulation: lengths, least and greatest, assertions, maps.
-/
import Derived.Test.YtccmopkjkmpaaaaGreatDoorAbOpsE
namespace Go.Ab
set_option linter.unusedSimpArgs false
set_option linter.unusedVariables false

section
variable {P : Program} {o : Oper} {a : Act} {ρ : Loc} {M : AMem} {w : World} {β : Type} {r : β}

theorem Sim.same_heap {w' : World} (s : Sim ρ M w) (hsz : w'.heap.size = w.heap.size) (h : ∀ b : Nat, w'.heap[b]? = w.heap[b]?) : Sim ρ M w' :=
  ⟨s.dom, fun α l e => by rw [hsz]; exact s.inb α l e, fun α l B h1 h2 => (s.blk α l B h1 h2).mono (Loc.le_refl ρ) (h _), s.sep, s.wf⟩

theorem Ext.same_heap {w' : World} (hsz : w'.heap.size = w.heap.size) (hos : w'.os = w.os) (ht : w'.tape = w.tape) (hou : w'.output = w.output) (h : ∀ b : Nat, w'.heap[b]? = w.heap[b]?) : Ext ρ M w ρ M w' :=
  ⟨Loc.le_refl ρ, Nat.le_refl _, by omega, hos, ht, hou, fun _ _ _ h => h, fun α l h1 h2 => (by rw [h1] at h2; cases h2), fun b _ _ => h b⟩

/-! ### maps -/
/-- entries -/
def EL (ρ : Loc) (es : List (AV × AV × Nat)) (ES : List MapEntry) : Prop :=
  es.length = ES.length ∧ ∀ (i : Nat) (e : AV × AV × Nat) (E : MapEntry), es[i]? = some e → ES[i]? = some E → VR ρ e.1 E.key ∧ VR ρ e.2.1 E.val ∧ e.2.2 = E.born

theorem EL.list_cons {e : AV × AV × Nat} {es : List (AV × AV × Nat)} {ES : List MapEntry} (h : EL ρ (e :: es) ES) : ∃ E Et, ES = E :: Et ∧ VR ρ e.1 E.key ∧ VR ρ e.2.1 E.val ∧ e.2.2 = E.born ∧ EL ρ es Et := by
  cases ES with
  | nil => have := h.1; simp at this
  | cons E Et =>
    obtain ⟨h1, h2, h3⟩ := h.2 0 e E rfl rfl
    exact ⟨E, Et, rfl, h1, h2, h3, by have := h.1; simpa using this, fun i a b ha hb => h.2 (i + 1) a b (by simpa using ha) (by simpa using hb)⟩
theorem EL.list_nil {ES : List MapEntry} (h : EL ρ [] ES) : ES = [] := List.eq_nil_of_length_eq_zero h.1.symm
theorem EL.cons {e : AV × AV × Nat} {E : MapEntry} {es : List (AV × AV × Nat)} {ES : List MapEntry} (h1 : VR ρ e.1 E.key) (h2 : VR ρ e.2.1 E.val) (h3 : e.2.2 = E.born) (h : EL ρ es ES) : EL ρ (e :: es) (E :: ES) := by
  refine ⟨by simp [h.1], fun i a b ha hb => ?_⟩
  cases i with
  | zero => simp at ha hb; subst ha; subst hb; exact ⟨h1, h2, h3⟩
  | succ i => exact h.2 i a b (by simpa using ha) (by simpa using hb)
theorem EL.nil : EL ρ [] [] := ⟨rfl, fun i a b h => by simp at h⟩
theorem EL.snoc {e : AV × AV × Nat} {E : MapEntry} (h1 : VR ρ e.1 E.key) (h2 : VR ρ e.2.1 E.val) (h3 : e.2.2 = E.born) : ∀ {es : List (AV × AV × Nat)} {ES : List MapEntry}, EL ρ es ES → EL ρ (es ++ [e]) (ES ++ [E]) := by
  intro es
  induction es with
  | nil => intro ES h; rw [h.list_nil]; exact EL.cons h1 h2 h3 EL.nil
  | cons x es ih => intro ES h; obtain ⟨X, Xt, rfl, a, b, c, hr⟩ := h.list_cons; exact EL.cons a b c (ih hr)

theorem keyEq_sound {x y : AV} {x' y' : Value} {kd : TypeDesc} {b : Bool} (hk : keyKind kd x = true) (h : keyEq x y = some b) (hx : VR ρ x x') (hy : VR ρ y y') :
    Instr.sameNow kd x' y' = some b ∧ (b = true → Instr.sameBits 10000 y' x' = true) := by
  unfold keyEq at h
  split at h
  · rename_i k n k' m
    split at h
    · rename_i e; subst e; cases h
      rw [hx.int_inv, hy.int_inv]
      cases kd <;> simp [keyKind] at hk
      refine ⟨by simp [Instr.sameNow], fun e => ?_⟩
      have : n = m := by simpa using e
      subst this
      simp [Instr.sameBits]
    · cases h
  · rename_i s t
    cases h
    rw [hx.str_inv, hy.str_inv]
    cases kd <;> simp [keyKind] at hk
    refine ⟨?_, fun e => ?_⟩
    · simp only [Instr.sameNow, beq_toListBytes, mk_toList, bytesEq_eq]
    · rw [bytesEq_eq] at e
      have : s = t := by simpa using e
      subst this
      simp [Instr.sameBits, beq_toListBytes]
  · rename_i s t
    cases h
    rw [hx.bool_inv, hy.bool_inv]
    cases kd <;> simp [keyKind] at hk
    refine ⟨by simp [Instr.sameNow], fun e => ?_⟩
    have : s = t := by simpa using e
    subst this
    simp [Instr.sameBits]
  · cases h

theorem findA_sound {k : AV} {k' : Value} {kd : TypeDesc} (hk : keyKind kd k = true) (hkv : VR ρ k k') : ∀ {es : List (AV × AV × Nat)} {ES : List MapEntry} {i : Nat} {res : Option (Nat × AV)}, EL ρ es ES → findA k es i = some res →
    (res = none ∧ Instr.findNow kd k' ES i = some none) ∨
    ∃ j v v' E, res = some (i + j, v) ∧ Instr.findNow kd k' ES i = some (some (i + j, v')) ∧ VR ρ v v' ∧ ES[j]? = some E ∧ Instr.sameBits 10000 E.key k' = true ∧ j < es.length := by
  intro es
  induction es with
  | nil => intro ES i res he h; simp only [findA, Option.some.injEq] at h; rw [he.list_nil]; exact .inl ⟨h.symm, rfl⟩
  | cons e es ih =>
    intro ES i res he h
    obtain ⟨E, Et, rfl, h1, h2, h3, hr⟩ := he.list_cons
    simp only [findA] at h
    split at h
    · rename_i hb
      cases h
      obtain ⟨a1, a2⟩ := keyEq_sound hk hb hkv h1
      refine .inr ⟨0, e.2.1, E.val, E, rfl, by simp [Instr.findNow, a1], h2, rfl, a2 rfl, by simp⟩
    · rename_i hb
      obtain ⟨a1, _⟩ := keyEq_sound hk hb hkv h1
      rcases ih (i := i + 1) hr h with ⟨b1, b2⟩ | ⟨j, v, v', E', b1, b2, b3, b4, b5, b6⟩
      · exact .inl ⟨b1, by simp [Instr.findNow, a1, b2]⟩
      · refine .inr ⟨j + 1, v, v', E', by rw [b1]; congr 2; omega, ?_, b3, by simpa using b4, b5, by simpa using b6⟩
        rw [show i + (j + 1) = i + 1 + j from by omega]
        simp [Instr.findNow, a1, b2]
    · cases h

theorem run_findKey {kt : TypeId} {kd : TypeDesc} {k' : Value} {ES : List MapEntry} {res : Option (Nat × Value)} (hu : P.underlying kt = some kd) (h : Instr.findNow kd k' ES 0 = some res) : (Instr.findKey kt k' ES).run P w = .ok res w := by
  simp [Instr.findKey, run_underlying hu, h]

theorem run_checkKey {kt : TypeId} {kd : TypeDesc} {k : AV} {k' : Value} (e : Bool) (hu : P.underlying kt = some kd) (hk : keyKind kd k = true) (hkv : VR ρ k k') : (Instr.checkKey e 10000 kt k').run P w = .ok () w := by
  have : ∀ n, (Instr.checkKey e (n + 1) kt k').run P w = .ok () w := fun n => by
    cases kd <;> cases k <;> simp [keyKind] at hk
    all_goals simp only [Instr.checkKey, Sem.run_bind, run_underlying hu, Result.andThen_ok]
    all_goals first | rfl | (rw [hkv.int_inv]; rfl) | (rw [hkv.str_inv]; rfl) | (rw [hkv.bool_inv]; rfl)
  exact this 9999

theorem Sim.map_of (s : Sim ρ M w) {α : Nat} {l : Pl} {es : List (AV × AV × Nat)} {clock : Nat} (hl : ρ α = some l) (hg : M.get α = some (.map es clock)) :
    ∃ ES : List MapEntry, w.heap[l.b]? = some (.map ES.toArray clock) ∧ EL ρ es ES := by
  cases s.blk α l _ hl hg with
  | map _ _ _ ES h1 h2 h3 => exact ⟨ES, h1, h2, h3⟩

theorem run_getMap {b : Nat} {ES : List MapEntry} {clock : Nat} (h : w.heap[b]? = some (.map ES.toArray clock)) : (getObj b).run P w = .ok (.map ES.toArray clock) w := by
  simp [getObj, Sem.run, h]

theorem run_setMap {b : Nat} {ES : List MapEntry} {clock : Nat} (h : w.heap[b]? = some (.map ES.toArray clock)) (o' : Obj) : (setObj b o').run P w = .ok () { w with heap := w.heap.setIfInBounds b o' } := by
  simp [setObj, Sem.run, h]

/-- the entries that a look-up goes through -/
theorem mapRow_sound (s : Sim ρ M w) {x : Option Nat} {x' : Value} {es : List (AV × AV × Nat)} (h : mapRow M x = some es) (hx : VR ρ (.map x) x') :
    ∃ ES : List MapEntry, EL ρ es ES ∧ ((x' = .map none ∧ ES = []) ∨ ∃ b clock, x' = .map (some b) ∧ (getObj b).run P w = .ok (.map ES.toArray clock) w) := by
  cases x with
  | none => simp only [mapRow, Option.some.injEq] at h; subst h; exact ⟨[], EL.nil, .inl ⟨hx.map_none_inv, rfl⟩⟩
  | some α =>
    simp only [mapRow] at h
    split at h
    · rename_i es' clock hg
      cases h
      obtain ⟨l, hl, rfl⟩ := hx.map_inv
      obtain ⟨ES, h1, h2⟩ := s.map_of hl hg
      exact ⟨ES, h2, .inr ⟨l.b, clock, rfl, run_getMap h1⟩⟩
    · cases h

/-- m[k] -/
theorem lookA_sound (s : Sim ρ M w) {t et : TypeId} {x : Option Nat} {x' k' : Value} {k : AV} {res : Option AV} {z : AV} {z' : Value} (ok : Bool) (hx : VR ρ (.map x) x') (hkv : VR ρ k k')
    (hz : (zeroValue et).run P w = .ok z' w) (hzv : VR ρ z z') (hu : ∃ kt, P.underlying t = some (.map kt et)) (h : lookA P M t x k = some res) :
    ∃ u, (Instr.lookup t x' k' ok).run P w = .ok u w ∧
      VR ρ (match res with | some v => (match ok with | true => AV.tup [v, .bool true] | false => v) | none => (match ok with | true => AV.tup [z, .bool false] | false => z)) u := by
  obtain ⟨kt, hu⟩ := hu
  unfold lookA at h
  rw [hu] at h
  simp only at h
  split at h
  · rename_i kd hkd
    split at h
    · rename_i hkk
      split at h
      · cases h
      · rename_i es hes
        simp only [Option.map_eq_some_iff] at h
        obtain ⟨fr, hf, rfl⟩ := h
        obtain ⟨ES, hE, hm⟩ := mapRow_sound (P := P) s hes hx
        have hck : ∀ e, (Instr.checkKey e 10000 kt k').run P w = .ok () w := fun e => run_checkKey e hkd hkk hkv
        have two : ∀ {v : AV} {u : Value} (b : Bool), VR ρ v u → VR ρ (.tup [v, .bool b]) (.tuple #[u, .bool b]) := fun b hv => (VL.cons hv (VL.cons (VR.bool b) (VL.nil ρ))).tup
        have key : ∃ fr' : Option (Nat × Value), (Instr.findKey kt k' ES).run P w = .ok fr' w ∧ ((fr = none ∧ fr' = none) ∨ ∃ i v v', fr = some (i, v) ∧ fr' = some (i, v') ∧ VR ρ v v') := by
          rcases findA_sound hkk hkv hE hf with ⟨a1, a2⟩ | ⟨j, v, v', E, a1, a2, a3, _⟩
          · exact ⟨none, run_findKey hkd a2, .inl ⟨a1, rfl⟩⟩
          · exact ⟨_, run_findKey hkd a2, .inr ⟨_, v, v', a1, rfl, a3⟩⟩
        obtain ⟨fr', hfr, hcase⟩ := key
        have hrun : (Instr.lookup t x' k' ok).run P w = .ok (match fr' with | some (_, v) => (if ok then .tuple #[v, .bool true] else v) | none => (if ok then .tuple #[z', .bool false] else z')) w := by
          rcases hm with ⟨rfl, rfl⟩ | ⟨b, clock, rfl, hget⟩
          · simp only [Instr.lookup, Sem.run_bind, run_underlying hu, Result.andThen_ok, Sem.run_pure, hck, hfr, Array.isEmpty_empty]
            cases fr' with
            | none => simp [hz]
            | some p => simp
          · simp only [Instr.lookup, Sem.run_bind, run_underlying hu, Result.andThen_ok, Sem.run_pure, hget, hck, hfr]
            cases fr' with
            | none => simp [hz]
            | some p => simp
        refine ⟨_, hrun, ?_⟩
        rcases hcase with ⟨rfl, rfl⟩ | ⟨i, v, v', rfl, rfl, hv⟩
        · cases ok
          · exact hzv
          · exact two false hzv
        · cases ok
          · exact hv
          · exact two true hv
    · cases h
  · cases h

theorem EL.upd {k v : AV} {k' v' : Value} (hk : VR ρ k k') (hv : VR ρ v v') : ∀ {es : List (AV × AV × Nat)} {ES : List MapEntry} (i : Nat), EL ρ es ES → EL ρ (updAt es i k v) (ES.modify i fun e => { e with key := k', val := v' }) := by
  intro es
  induction es with
  | nil => intro ES i h; rw [h.list_nil]; simp [updAt]; exact EL.nil
  | cons e es ih =>
    intro ES i h
    obtain ⟨E, Et, rfl, a, b, c, hr⟩ := h.list_cons
    cases i with
    | zero => simp only [updAt, List.modify_zero_cons]; exact EL.cons hk hv c hr
    | succ i => simp only [updAt, List.modify_succ_cons]; exact EL.cons a b c (ih i hr)

theorem EL.erase : ∀ {es : List (AV × AV × Nat)} {ES : List MapEntry} (i : Nat), EL ρ es ES → EL ρ (eraseAt es i) (ES.eraseIdx i) := by
  intro es
  induction es with
  | nil => intro ES i h; rw [h.list_nil]; simp [eraseAt]; exact EL.nil
  | cons e es ih =>
    intro ES i h
    obtain ⟨E, Et, rfl, a, b, c, hr⟩ := h.list_cons
    cases i with
    | zero => simp only [eraseAt, List.eraseIdx_zero, List.tail_cons]; exact hr
    | succ i => simp only [eraseAt, List.eraseIdx_cons_succ]; exact EL.cons a b c (ih i hr)

/-- a map's block that is written -/
theorem Sim.setMap (s : Sim ρ M w) {α : Nat} {l : Pl} {es es' : List (AV × AV × Nat)} {clock clock' : Nat} {ES' : List MapEntry} (hl : ρ α = some l) (hg : M.get α = some (.map es clock)) (hE : EL ρ es' ES') :
    Sim ρ (M.set α (.map es' clock')) { w with heap := w.heap.setIfInBounds l.b (.map ES'.toArray clock') } ∧ Ext ρ M w ρ (M.set α (.map es' clock')) { w with heap := w.heap.setIfInBounds l.b (.map ES'.toArray clock') } := by
  have hlt := s.inb α l hl
  have hoth : ∀ b : Nat, b ≠ l.b → (w.heap.setIfInBounds l.b (.map ES'.toArray clock'))[b]? = w.heap[b]? := fun b hb => Array.getElem?_setIfInBounds_ne (Ne.symm hb)
  refine ⟨s.set hl hg rfl (by simp) hoth ?_, Ext.set hl hg rfl (by simp) rfl rfl rfl hoth⟩
  refine .map es' clock' l ES' ?_ hE.1 hE.2
  simp [hlt]

theorem mapUpdA_sound (s : Sim ρ M w) {t : TypeId} {x : Option Nat} {x' k' v' : Value} {k v : AV} {M' : AMem} (hx : VR ρ (.map x) x') (hkv : VR ρ k k') (hv : VR ρ v v') (h : mapUpdA P M t x k v = some M') :
    ∃ w', (Instr.mapUpdate t x' k' v').run P w = .ok () w' ∧ Sim ρ M' w' ∧ Ext ρ M w ρ M' w' := by
  unfold mapUpdA at h
  split at h
  · rename_i kt et α hu
    split at h
    · rename_i kd es clock hkd hg
      split at h
      · rename_i hkk
        obtain ⟨l, hl, rfl⟩ := hx.map_inv
        obtain ⟨ES, hE1, hE⟩ := s.map_of hl hg
        have hck : (Instr.checkKey false 10000 kt k').run P w = .ok () w := run_checkKey false hkd hkk hkv
        split at h
        · cases h
        · rename_i i v0 hf
          cases h
          rcases findA_sound hkk hkv hE hf with ⟨a1, _⟩ | ⟨j, u, u', E, a1, a2, a3, a4, a5, a6⟩
          · cases a1
          · simp only [Nat.zero_add, Option.some.injEq, Prod.mk.injEq] at a1
            obtain ⟨rfl, rfl⟩ := a1
            simp only [Nat.zero_add] at a2
            obtain ⟨h1, h2⟩ := s.setMap (clock' := clock) hl hg (EL.upd hkv hv i hE)
            refine ⟨_, ?_, h1, h2⟩
            have hi : i < ES.length := by rw [← hE.1]; exact a6
            have ekey : ((ES.toArray[i]?).map (·.key)).getD k' = E.key := by simp [a4]
            simp only [Instr.mapUpdate, Sem.run_bind, run_underlying hu, Result.andThen_ok, run_getMap hE1, hck, run_findKey hkd a2, ekey]
            simp only [Instr.keyThatStays, a5, if_true, Sem.run_pure, Result.andThen_ok, run_setMap hE1]
            congr 4
            apply Array.ext'
            simp [Array.toList_modify]
        · rename_i hf
          cases h
          rcases findA_sound hkk hkv hE hf with ⟨_, a2⟩ | ⟨j, u, u', E, a1, _⟩
          · obtain ⟨h1, h2⟩ := s.setMap (clock' := clock + 1) hl hg (EL.snoc (e := (k, v, clock)) (E := { key := k', val := v', born := clock }) hkv hv rfl hE)
            refine ⟨_, ?_, h1, h2⟩
            simp only [Instr.mapUpdate, Sem.run_bind, run_underlying hu, Result.andThen_ok, run_getMap hE1, hck, run_findKey hkd a2, run_setMap hE1]
            congr 4
            apply Array.ext'
            simp
          · cases a1
      · cases h
    · cases h
  · cases h

theorem mapDelA_sound (s : Sim ρ M w) {t ty : TypeId} {x : Option Nat} {x' k' : Value} {k : AV} {M' : AMem} (hx : VR ρ (.map x) x') (hkv : VR ρ k k') (ts : Array TypeId) (hts : ts[0]? = some t) (h : mapDelA P M t x k = some M') :
    ∃ w', (Builtin.delete_ ts ty #[x', k']).run P w = .ok (.tuple #[]) w' ∧ Sim ρ M' w' ∧ Ext ρ M w ρ M' w' := by
  unfold mapDelA at h
  split at h
  · rename_i kt et hu
    split at h
    · rename_i kd hkd
      split at h
      · rename_i hkk
        have hck : ∀ e, (Instr.checkKey e 10000 kt k').run P w = .ok () w := fun e => run_checkKey e hkd hkk hkv
        have a0 : (#[x', k'] : Array Value)[0]? = some x' := rfl
        have a1 : (#[x', k'] : Array Value)[1]? = some k' := rfl
        split at h
        · cases h
          obtain rfl := hx.map_none_inv
          refine ⟨w, ?_, s, Ext.refl ρ M w⟩
          simp only [Builtin.delete_, hts, a0, a1, Sem.run_bind, run_underlying hu, Result.andThen_ok, hck, Sem.run_pure]
        · rename_i α
          obtain ⟨l, hl, rfl⟩ := hx.map_inv
          split at h
          · rename_i es clock hg
            obtain ⟨ES, hE1, hE⟩ := s.map_of hl hg
            split at h
            · cases h
            · rename_i i v0 hf
              cases h
              rcases findA_sound hkk hkv hE hf with ⟨a1', _⟩ | ⟨j, u, u', E, b1, b2, b3, b4, b5, b6⟩
              · cases a1'
              · simp only [Nat.zero_add, Option.some.injEq, Prod.mk.injEq] at b1
                obtain ⟨rfl, rfl⟩ := b1
                simp only [Nat.zero_add] at b2
                obtain ⟨h1, h2⟩ := s.setMap (clock' := clock) hl hg (EL.erase i hE)
                refine ⟨_, ?_, h1, h2⟩
                have hi : i < ES.length := by rw [← hE.1]; exact b6
                simp only [Builtin.delete_, hts, a0, a1, Sem.run_bind, run_underlying hu, Result.andThen_ok, run_getMap hE1, hck, run_findKey hkd b2, run_setMap hE1, Sem.run_pure]
                congr 4
                apply Array.ext'
                simp [Array.eraseIdxIfInBounds, hi]
            · rename_i hf
              cases h
              rcases findA_sound hkk hkv hE hf with ⟨_, b2⟩ | ⟨j, u, u', E, b1, _⟩
              · have hlt := s.inb α l hl
                have hsame : ∀ b : Nat, (w.heap.setIfInBounds l.b (.map ES.toArray clock))[b]? = w.heap[b]? := fun b => by
                  by_cases e : b = l.b
                  · subst e; rw [hE1]; simp [hlt]
                  · exact Array.getElem?_setIfInBounds_ne (Ne.symm e)
                refine ⟨{ w with heap := w.heap.setIfInBounds l.b (.map ES.toArray clock) }, ?_, s.same_heap (by simp) hsame, Ext.same_heap (by simp) rfl rfl rfl hsame⟩
                simp only [Builtin.delete_, hts, a0, a1, Sem.run_bind, run_underlying hu, Result.andThen_ok, run_getMap hE1, hck, run_findKey hkd b2, run_setMap hE1, Sem.run_pure]
              · cases b1
          · cases h
      · cases h
    · cases h
  · cases h

/-! ### lengths, least and greatest, assertions -/
theorem lenK_sound (s : Sim ρ M w) {t ty : TypeId} {x : AV} {x' : Value} {kv : AV → Option β} (ts : Array TypeId) (hts : ts[0]? = some t) (hx : VR ρ x x') (h : lenK P M t x kv = some r) :
    ∃ v u, kv v = some r ∧ (Builtin.len_ ts ty #[x']).run P w = .ok u w ∧ VR ρ v u := by
  have a0 : (#[x'] : Array Value)[0]? = some x' := rfl
  unfold lenK at h
  split at h
  · rename_i t' hu
    refine ⟨_, _, h, ?_, .int _ _⟩
    obtain rfl := hx.str_inv
    have hsz : (⟨t'.toArray⟩ : ByteArray).size = t'.length := by simp [ByteArray.size]
    simp only [Builtin.len_, hts, a0, Sem.run_bind, run_underlying hu, Result.andThen_ok, Sem.run_pure, hsz, goInt]
  · rename_i n e hu
    refine ⟨_, _, h, ?_, .int _ _⟩
    simp only [Builtin.len_, hts, a0, Sem.run_bind, run_underlying hu, Result.andThen_ok, Sem.run_pure, goInt]
  · rename_i e b n c hu
    obtain ⟨ad, cap', rfl, _⟩ := hx.slice_inv
    refine ⟨_, _, h, ?_, .int _ _⟩
    simp only [Builtin.len_, hts, a0, Sem.run_bind, run_underlying hu, Result.andThen_ok, Sem.run_pure, goInt]
  · rename_i kt et m hu
    obtain ⟨es, hes, h⟩ := bindO_some h
    obtain ⟨ES, hE, hm⟩ := mapRow_sound (P := P) s hes hx
    refine ⟨_, _, h, ?_, .int _ _⟩
    rcases hm with ⟨rfl, rfl⟩ | ⟨b, clock, rfl, hget⟩
    · have := hE.1
      simp only [Builtin.len_, hts, a0, Sem.run_bind, run_underlying hu, Result.andThen_ok, Sem.run_pure, goInt, this, List.length_nil]
      rfl
    · have := hE.1
      simp only [Builtin.len_, hts, a0, Sem.run_bind, run_underlying hu, Result.andThen_ok, hget, Sem.run_pure, goInt, this, List.size_toArray]
  · cases h

theorem ba_toList (a : ByteArray) : a.toList = a.data.toList := by
  have := mk_toList a.data.toList
  simpa using this

theorem mmK_sound {isMax : Bool} : ∀ {xs : List AV} {x : AV} {x' : Value} {ys : List Value} {kv : AV → Option β}, VR ρ x x' → VL ρ xs ys → mmK isMax x xs kv = some r →
    ∃ v u, kv v = some r ∧ ((ys.foldlM (if isMax then Builtin.max2 else Builtin.min2) x' : Sem Value)).run P w = .ok u w ∧ VR ρ v u := by
  intro xs
  induction xs with
  | nil =>
    intro x x' ys kv hx hl h
    rw [hl.list_nil]
    simp only [mmK] at h
    split at h
    · rename_i k n
      exact ⟨_, x', h, by simp, hx⟩
    · exact ⟨_, x', h, by simp, hx⟩
    · cases h
  | cons y xs ih =>
    intro x x' ys kv hx hl h
    obtain ⟨y', yt, rfl, hy, hyt⟩ := hl.list_cons
    unfold mmK at h
    split at h
    · rename_i e; cases e
    · rename_i k n k' m t e
      cases e
      obtain ⟨hk, h0⟩ := sureB_some h
      have hk := of_decide_eq_true hk
      subst hk
      obtain ⟨v, u, h1, h2, h3⟩ := ih (x' := .int k (if isMax then (if m > n then m else n) else (if m < n then m else n))) (.int _ _) hyt h0
      refine ⟨v, u, h1, ?_, h3⟩
      rw [hx.int_inv, hy.int_inv]
      simp only [List.foldlM_cons, Sem.run_bind]
      cases isMax
      · simp only [Bool.false_eq_true, if_false] at h2 ⊢
        rw [show (Builtin.min2 (.int k n) (.int k m)).run P w = .ok (.int k (if m < n then m else n)) w from rfl]
        exact h2
      · simp only [if_true] at h2 ⊢
        rw [show (Builtin.max2 (.int k n) (.int k m)).run P w = .ok (.int k (if m > n then m else n)) w from rfl]
        exact h2
    · rename_i a b t e
      cases e
      cases hx with
      | str a' =>
      cases hy with
      | str b' =>
      simp only [List.foldlM_cons, Sem.run_bind]
      split at h
      · have hm : (Builtin.max2 (.string a') (.string b')).run P w = .ok (.string (if bytesLt a'.data.toList b'.data.toList then b' else a')) w := by
          cases hb : bytesLt a'.data.toList b'.data.toList <;> simp_all [Builtin.max2, Op.stringOp, Go.asBool, ← bytesLt_eq, ba_toList]
        simp only [if_true]
        rw [hm]
        split at h
        · rename_i hb
          obtain ⟨v, u, h1, h2, h3⟩ := ih (.str b') hyt h
          exact ⟨v, u, h1, by simpa [hb] using h2, h3⟩
        · rename_i hb
          obtain ⟨v, u, h1, h2, h3⟩ := ih (.str a') hyt h
          exact ⟨v, u, h1, by simpa [hb] using h2, h3⟩
      · have hm : (Builtin.min2 (.string a') (.string b')).run P w = .ok (.string (if bytesLt a'.data.toList b'.data.toList || bytesEq a'.data.toList b'.data.toList then a' else b')) w := by
          cases hb : bytesLt a'.data.toList b'.data.toList <;> cases hc : bytesEq a'.data.toList b'.data.toList <;> simp_all [Builtin.min2, Op.stringOp, Go.asBool, ← bytesLt_eq, ← bytesEq_eq, ba_toList]
          · exact fun e => ByteArray.ext e
          · have hc' := hc
            rw [bytesEq_eq] at hc'
            exact fun e => absurd (by simpa using hc') e
        simp only [Bool.false_eq_true, if_false]
        rw [hm]
        split at h
        · rename_i hb
          obtain ⟨v, u, h1, h2, h3⟩ := ih (.str a') hyt h
          exact ⟨v, u, h1, by simpa [hb] using h2, h3⟩
        · rename_i hb
          obtain ⟨v, u, h1, h2, h3⟩ := ih (.str b') hyt h
          exact ⟨v, u, h1, by simpa [hb] using h2, h3⟩
    · cases h

theorem zeroA_sound {t : TypeId} {z : AV} (h : zeroA P t = some z) : ∃ i z', P.info? t = some i ∧ i.zero = some z' ∧ (∀ w, (zeroValue t).run P w = .ok z' w) ∧ ∀ ρ, VR ρ z z' := by
  unfold zeroA at h
  simp only [Option.bind_eq_some_iff] at h
  obtain ⟨z', ⟨i, hi, hz⟩, hv⟩ := h
  refine ⟨i, z', hi, hz, fun w => ?_, fun ρ => absV_sound ρ hv⟩
  simp [zeroValue, run_typeInfo w hi, hz]

theorem typeAssertK_sound {x : AV} {x' : Value} {xt t : TypeId} {ok : Bool} {kv : AV → Option β} (hx : VR ρ x x') (h : typeAssertK P x t ok kv = some r) :
    ∃ v u, kv v = some r ∧ (Instr.typeAssert x' xt t ok).run P w = .ok u w ∧ VR ρ v u := by
  have two : ∀ {v : AV} {u : Value} (b : Bool), VR ρ v u → VR ρ (.tup [v, .bool b]) (.tuple #[u, .bool b]) := fun b hv => (VL.cons hv (VL.cons (VR.bool b) (VL.nil ρ))).tup
  unfold typeAssertK at h
  split at h
  · cases h
  · rename_i d hd hu
    obtain ⟨rfl, h⟩ := sureB_some h
    obtain ⟨z, hz, h⟩ := bindO_some h
    obtain ⟨i, z', hi, hz', hzr, hzv⟩ := zeroA_sound hz
    rw [hx.nilIface_inv]
    refine ⟨_, _, h, ?_, two false (hzv ρ)⟩
    cases d <;> first
      | exact (hd _ rfl).elim
      | (simp only [Instr.typeAssert, Sem.run_bind, run_underlying hu, Result.andThen_ok, if_true, hzr, Sem.run_pure]; done)
  · rename_i d t' v hd hu
    obtain ⟨u, rfl, hv⟩ := hx.iface_inv
    split at h
    · rename_i e
      subst e
      refine ⟨_, if ok then .tuple #[u, .bool true] else u, h, ?_, ?_⟩
      · cases d <;> first
          | exact (hd _ rfl).elim
          | (simp only [Instr.typeAssert, Sem.run_bind, run_underlying hu, Result.andThen_ok, if_true, Sem.run_pure]; done)
      · cases ok
        · exact hv
        · exact two true hv
    · rename_i e
      obtain ⟨rfl, h⟩ := sureB_some h
      obtain ⟨z, hz, h⟩ := bindO_some h
      obtain ⟨i, z', hi, hz', hzr, hzv⟩ := zeroA_sound hz
      refine ⟨_, _, h, ?_, two false (hzv ρ)⟩
      cases d <;> first
        | exact (hd _ rfl).elim
        | (simp only [Instr.typeAssert, Sem.run_bind, run_underlying hu, Result.andThen_ok, if_neg e, if_true, hzr, Sem.run_pure]; done)
  · cases h
end
end Go.Ab
