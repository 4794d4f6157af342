/-
  What single operations come to, under the simulation: binary operations, conversions, slices, lengths, assertions.
-/
import Derived.Test.YtccmopkjkmpaaaaGreatDoorAbOpsB
namespace Go.Ab
set_option linter.unusedSimpArgs false
set_option linter.unusedVariables false

section
variable {P : Program} {o : Oper} {a : Act} {ρ : Loc} {M : AMem} {w : World}

theorem VR.of_int {x : AV} {k : IntKind} {n : Int} (h : VR ρ x (.int k n)) : x = .int k n := by cases h; rfl
theorem VR.of_string {x : AV} {s : ByteArray} (h : VR ρ x (.string s)) : x = .str s.data.toList := by cases h; rfl
theorem VR.not_float {x : AV} {k : FloatKind} {n : Nat} (h : VR ρ x (.float k n)) : False := by cases h
theorem VR.not_complex {x : AV} {k : FloatKind} {m n : Nat} (h : VR ρ x (.complex k m n)) : False := by cases h
theorem VR.of_nilIface {x : AV} (h : VR ρ x .nilIface) : x = .nilIface := by cases h; rfl
theorem VR.of_agg {x : AV} {cs : Array Value} (h : VR ρ x (.agg cs)) : ∃ xs, x = .agg xs := by cases h with | agg xs ys _ _ => exact ⟨xs, rfl⟩

theorem binOp_eql (t : TypeId) {x' y' : Value} (e1 : ∀ k n k' m, x' = .int k n → y' = .int k' m → False) (e2 : ∀ m n, x' = .string m → y' = .string n → False)
    (e3 : ∀ k n, x' = .float k n → False) (e4 : ∀ k m n, x' = .complex k m n → False) :
    binOp .eql t x' y' = (do pure (.bool (← Op.equal t x' y'))) ∧ binOp .neq t x' y' = (do pure (.bool (!(← Op.equal t x' y')))) := by
  cases x' <;> first
    | exact (e3 _ _ rfl).elim
    | exact (e4 _ _ _ rfl).elim
    | (cases y' <;> first
        | exact (e1 _ _ _ _ rfl rfl).elim
        | exact (e2 _ _ rfl rfl).elim
        | exact ⟨rfl, rfl⟩)

theorem eqGuard_plain (op : BinOp) (t : TypeId) (xo yo : Operand) {x' y' : Value} (h1 : x' = .nilIface → y' = .nilIface → False) (h2 : ∀ c d, x' = .agg c → y' = .agg d → False) : (eqGuard op t xo yo x' y').run P w = .ok () w := by
  cases op <;> first
    | rfl
    | (cases x' <;> first
        | rfl
        | (cases y' <;> first
            | rfl
            | exact (h1 rfl rfl).elim
            | exact (h2 _ _ rfl rfl).elim))

theorem eqGuard_nil (op : BinOp) (t : TypeId) (xo yo : Operand) (hc : (isConstO xo || isConstO yo) = true) : (eqGuard op t xo yo .nilIface .nilIface).run P w = .ok () w := by
  cases op <;> first
    | rfl
    | (cases xo <;> first
        | rfl
        | (cases yo <;> first
            | rfl
            | (simp [isConstO] at hc; done)))

theorem eqGuard_agg (op : BinOp) (t : TypeId) (xo yo : Operand) (us vs : Array Value) (hc : P.eqGuardType P.depth t = false) : (eqGuard op t xo yo (.agg us) (.agg vs)).run P w = .ok () w := by
  unfold eqGuard
  cases op <;> simp [hc]

theorem equal_of {t : TypeId} {x y : Value} {b : Bool} (h : ∀ n, (Op.equalIn (n + 1) t x y).run P w = .ok b w) : (Op.equal t x y).run P w = .ok b w := h 9999

theorem VR.ne_agg {x : AV} {x' : Value} (h : VR ρ x x') (hx : ∀ xs, x ≠ .agg xs) (cs : Array Value) : x' ≠ .agg cs := fun e => by
  subst e; obtain ⟨xs, e⟩ := h.of_agg; exact hx xs e
theorem VR.ne_nilIface {x : AV} {x' : Value} (h : VR ρ x x') (hx : x ≠ .nilIface) : x' ≠ .nilIface := fun e => by
  subst e; exact hx h.of_nilIface

/-- '==' and '!=' on what is neither numbers nor strings -/
theorem sameK_sound (s : Sim ρ M w) {β : Type} {r : β} {op : BinOp} {neg : Bool} (hop : op = if neg then .neq else .eql) {t : TypeId} {xo yo : Operand} {x y : AV} {x' y' : Value} {kv : AV → Option β} (hx : VR ρ x x') (hy : VR ρ y y')
    (h1 : ∀ k a k' b, x = .int k a → y = .int k' b → False) (h2 : ∀ a b, x = .str a → y = .str b → False) (h : sameK P M neg t xo yo x y kv = some r) :
    ∃ v u, kv v = some r ∧ (do eqGuard op t xo yo x' y'; binOp op t x' y' : Sem Value).run P w = .ok u w ∧ VR ρ v u := by
  have hb := binOp_eql t (x' := x') (y' := y') (fun k n k' m e e' => by subst e; subst e'; exact h1 _ _ _ _ hx.of_int hy.of_int) (fun m n e e' => by subst e; subst e'; exact h2 _ _ hx.of_string hy.of_string)
    (fun k n e => by subst e; exact hx.not_float) (fun k m n e => by subst e; exact hx.not_complex)
  have fin : ∀ {b : Bool}, (Op.equal t x' y').run P w = .ok b w → (binOp op t x' y').run P w = .ok (.bool (b != neg)) w := fun {b} e => by
    cases neg <;> simp only [Bool.false_eq_true, if_false, if_true] at hop <;> subst hop
    · rw [hb.1, Sem.run_bind, e]; simp
    · rw [hb.2, Sem.run_bind, e]; simp
  have hex : op = .eql ∨ op = .neq := by cases neg <;> simp at hop <;> simp [hop]
  have whole : ∀ {b : Bool} {v : AV}, (eqGuard op t xo yo x' y').run P w = .ok () w → (Op.equal t x' y').run P w = .ok b w → kv (.bool (b != neg)) = some r →
      ∃ v u, kv v = some r ∧ (do eqGuard op t xo yo x' y'; binOp op t x' y' : Sem Value).run P w = .ok u w ∧ VR ρ v u := fun {b v} g e hk =>
    ⟨_, _, hk, by rw [Sem.run_bind, g, Result.andThen_ok]; exact fin e, .bool _⟩
  unfold sameK at h
  split at h
  · obtain ⟨hc, h⟩ := sureB_some h
    obtain ⟨hu, h⟩ := sureB_some h
    have ex := hx.nilIface_inv
    have ey := hy.nilIface_inv
    have hi : ∃ ms, P.underlying t = some (.interface ms) := by
      split at hu
      · rename_i ms e; exact ⟨ms, e⟩
      · cases hu
    obtain ⟨ms, hi⟩ := hi
    refine whole (b := true) (v := .nilIface) ?_ ?_ (by simpa using h)
    · rw [ex, ey]; exact eqGuard_nil op t xo yo hc
    · rw [ex, ey]
      exact equal_of fun n => by simp [Op.equalIn, run_underlying hi]
  · rename_i xs ys
    obtain ⟨hc, h⟩ := sureB_some h
    obtain ⟨b, hb', h⟩ := bindO_some h
    have he : (Op.equal t x' y').run P w = .ok b w := eqA_sound s 12 10000 (by decide) _ _ _ _ _ _ hb' hx hy
    refine whole (v := .nilIface) ?_ he h
    obtain ⟨us, rfl, _⟩ := hx.agg_inv
    obtain ⟨vs, rfl, _⟩ := hy.agg_inv
    exact eqGuard_agg op t xo yo _ _ (by simpa using hc)
  · rename_i hn1 hn2
    have g : (eqGuard op t xo yo x' y').run P w = .ok () w := eqGuard_plain op t xo yo (fun e e' => by subst e; subst e'; exact hn1 hx.of_nilIface hy.of_nilIface)
      (fun c d e e' => by subst e; subst e'; obtain ⟨us, e⟩ := hx.of_agg; obtain ⟨vs, e'⟩ := hy.of_agg; exact hn2 us vs e e')
    split at h
    · rename_i p _
      split at h
      · rename_i e hu
        obtain ⟨ad, rfl, hn⟩ := isNone_ptr hx
        have ey := hy.ptr_none_inv
        subst ey
        refine whole (b := p.isNone) (v := .nilIface) g ?_ h
        rw [← hn]
        exact equal_of fun n => by cases ad <;> simp [Op.equalIn, run_underlying hu]
      · cases h
    · rename_i p _ _ _ _ _
      split at h
      · rename_i e hu
        obtain ⟨ad, m, k, rfl, hn⟩ := isNone_slice hx
        obtain ⟨bd, m', k', rfl, hn'⟩ := isNone_slice hy
        have : bd = none := by cases bd with | none => rfl | some x => simp at hn'
        subst this
        refine whole (b := p.isNone) (v := .nilIface) g ?_ h
        rw [← hn]
        exact equal_of fun n => by cases ad <;> simp [Op.equalIn, run_underlying hu]
      · cases h
    · obtain ⟨b, hb', h⟩ := bindO_some h
      exact whole (v := .nilIface) g (eqA_sound s 12 10000 (by decide) _ _ _ _ _ _ hb' hx hy) h

theorem binK_sound (s : Sim ρ M w) {β : Type} {r : β} {op : BinOp} {t : TypeId} {xo yo : Operand} {x y : AV} {x' y' : Value} {kv : AV → Option β} (hx : VR ρ x x') (hy : VR ρ y y')
    (h : binK P M op t xo yo x y kv = some r) :
    ∃ v u, kv v = some r ∧ (do eqGuard op t xo yo x' y'; binOp op t x' y' : Sem Value).run P w = .ok u w ∧ VR ρ v u := by
  unfold binK at h
  split at h
  · obtain ⟨hk, h⟩ := sureB_some h
    rw [eqKind_eq] at hk
    obtain ⟨v, u, h1, h2, h3⟩ := intK_sound (t := t) (P := P) (ρ := ρ) (w := w) hk h
    rw [hx.int_inv, hy.int_inv]
    refine ⟨v, u, h1, ?_, h3⟩
    rw [Sem.run_bind, eqGuard_plain op t xo yo (fun e => by cases e) (fun c d e => by cases e), Result.andThen_ok]
    exact h2
  · obtain ⟨v, u, h1, h2, h3⟩ := strK_sound (t := t) (P := P) (ρ := ρ) (w := w) h
    rw [hx.str_inv, hy.str_inv]
    refine ⟨v, u, h1, ?_, h3⟩
    rw [Sem.run_bind, eqGuard_plain op t xo yo (fun e => by cases e) (fun c d e => by cases e), Result.andThen_ok]
    exact h2
  · rename_i n1 n2
    split at h
    · exact sameK_sound s (neg := false) rfl hx hy n1 n2 h
    · exact sameK_sound s (neg := true) rfl hx hy n1 n2 h
    · cases h
end
end Go.Ab
