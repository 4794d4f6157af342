/-
  What single operations come to, under the simulation: '==', conversions, slices of what there is, lengths.
-/
import Derived.Test.YtccmopkjkmpaaaaGreatDoorAbOpsA
import Derived.Laws.Slices
namespace Go.Ab
set_option linter.unusedSimpArgs false
set_option linter.unusedVariables false

section
variable {P : Program} {o : Oper} {a : Act} {ρ : Loc} {M : AMem} {w : World}

/-! ### equality -/
theorem cells_clean (s : Sim ρ M w) {α : Nat} {l : Pl} {c : List AV} {sz : Nat} {cl : Cl} (hρ : ρ α = some l) (hg : M.get α = some (.cells c sz cl)) (hcl : cl.b = true) :
    ∃ C e fz, w.heap[l.b]? = some (.cells C e fz) ∧ fz.1 = fz.2 := by
  cases s.blk α l _ hρ hg with
  | cells _ _ _ _ C e fz h1 h2 h3 h4 h5 => exact ⟨C.toArray, e, fz, h1, h4.1 hcl⟩

theorem frozen_clean {b : Nat} {C : Array Value} {e : TypeId} {fz : Nat × Nat} (h : w.heap[b]? = some (.cells C e fz)) (hf : fz.1 = fz.2) (o : Nat) : w.frozen? ⟨b, o, none⟩ = false := by
  obtain ⟨lo, hi⟩ := fz
  simp only at hf
  subst hf
  simp [World.frozen?, h]

theorem run_sameAddr_apart {a b : Addr} {C D : Array Value} {e f : TypeId} {fz gz : Nat × Nat} (hne : a.block ≠ b.block) (ha : w.heap[a.block]? = some (.cells C e fz)) (hb : w.heap[b.block]? = some (.cells D f gz))
    (hfa : fz.1 = fz.2) (hfb : gz.1 = gz.2) : (sameAddr a b).run P w = .ok false w := by
  have hne' : (a.block == b.block) = false := by simpa using hne
  have h1 : ∀ o sp, w.frozen? ⟨a.block, o, sp⟩ = false := fun o sp => by
    obtain ⟨lo, hi⟩ := fz
    simp only at hfa; subst hfa
    simp [World.frozen?, ha]
  have h2 : ∀ o sp, w.frozen? ⟨b.block, o, sp⟩ = false := fun o sp => by
    obtain ⟨lo, hi⟩ := gz
    simp only at hfb; subst hfb
    simp [World.frozen?, hb]
  have hs1 : w.shape? a.block = some (e, C.size) := by simp [World.shape?, ha]
  have hs2 : w.shape? b.block = some (f, D.size) := by simp [World.shape?, hb]
  have g1 : w.frozen? a = false := h1 a.off a.spot
  have g2 : w.frozen? b = false := h2 b.off b.spot
  simp [sameAddr, hne', g1, g2, noView, viewAt, hs1, hs2, mayBeOne, stringish, h1, h2]

theorem eqFields_sound {d n : Nat} {xs ys : List AV} {us vs : List Value} (hx : VL ρ xs us) (hy : VL ρ ys vs)
    (ih : ∀ (t : TypeId) (x y : AV) (x' y' : Value) (b : Bool), eqA P M d t x y = some b → VR ρ x x' → VR ρ y y' → (Op.equalIn n t x' y').run P w = .ok b w) :
    ∀ (fs : List Field) (b : Bool), eqFields P (eqA P M d) xs ys fs = some b → (Op.eqFields n us.toArray vs.toArray fs).run P w = .ok b w := by
  intro fs
  induction fs with
  | nil => intro b h; simp only [eqFields, Option.some.injEq] at h; subst h; rfl
  | cons f fs ihf =>
    intro b h
    simp only [eqFields] at h
    split at h
    · cases h
    rename_i hname
    split at h
    · rename_i x y h1 h2
      obtain ⟨x', hx', hvx⟩ := run_partA (P := P) (w := w) hx h1
      obtain ⟨y', hy', hvy⟩ := run_partA (P := P) (w := w) hy h2
      split at h
      · rename_i he
        have := ih _ _ _ _ _ _ he hvx hvy
        simp [Op.eqFields, hname, hx', hy', this, ihf b h]
      · rename_i he
        cases h
        have := ih _ _ _ _ _ _ he hvx hvy
        simp [Op.eqFields, hname, hx', hy', this]
      · cases h
    · cases h

theorem isNone_ptr {a : Option (Nat × Nat)} {x : Value} (h : VR ρ (.ptr a) x) : ∃ ad : Option Addr, x = .pointer ad ∧ ad.isNone = a.isNone := by
  cases h with
  | pnil => exact ⟨none, rfl, rfl⟩
  | ptr α o l e => exact ⟨_, rfl, rfl⟩
theorem isNone_slice {a : Option (Nat × Nat)} {n : Nat} {c : Option Nat} {x : Value} (h : VR ρ (.slice a n c) x) : ∃ (ad : Option Addr) (m k : Nat), x = .slice ad m k ∧ ad.isNone = a.isNone := by
  cases h with
  | slnil => exact ⟨none, _, _, rfl, rfl⟩
  | sl α o n c l cap e h1 h2 => exact ⟨_, _, _, rfl, rfl⟩
  | sl0 x c a cap h1 => exact ⟨_, _, _, rfl, rfl⟩
theorem isNone_map {a : Option Nat} {x : Value} (h : VR ρ (.map a) x) : ∃ ad : Option Nat, x = .map ad ∧ ad.isNone = a.isNone := by
  cases h with
  | mnil => exact ⟨none, rfl, rfl⟩
  | map α l e => exact ⟨_, rfl, rfl⟩

theorem eqA_sound (s : Sim ρ M w) : ∀ (d n : Nat), d ≤ n → ∀ (t : TypeId) (x y : AV) (x' y' : Value) (b : Bool), eqA P M d t x y = some b → VR ρ x x' → VR ρ y y' → (Op.equalIn n t x' y').run P w = .ok b w := by
  intro d
  induction d with
  | zero => intro n _ t x y x' y' b h; simp [eqA] at h
  | succ d ih =>
    intro n hn t x y x' y' b h hx hy
    obtain ⟨n, rfl⟩ : ∃ m, n = m + 1 := ⟨n - 1, by omega⟩
    have ih := ih n (by omega)
    simp only [eqA] at h
    split at h
    case h_1 hu =>
      cases h
      rw [hx.bool_inv, hy.bool_inv]
      simp [Op.equalIn, run_underlying hu]
    case h_2 hu =>
      rw [hx.int_inv, hy.int_inv]
      split at h
      · rename_i hk; cases h; subst hk
        simp [Op.equalIn, run_underlying hu]
      · cases h
    case h_3 hu =>
      cases h
      rw [hx.str_inv, hy.str_inv]
      simp [Op.equalIn, run_underlying hu, beq_toListBytes, mk_toList, bytesEq_eq]
    case h_4 hu =>
      cases h
      rw [hx.ptr_none_inv]
      obtain ⟨ad, rfl, e⟩ := isNone_ptr hy
      simp [Op.equalIn, run_underlying hu, ← e]
    case h_5 hu =>
      cases h
      rename_i p
      obtain ⟨α, o⟩ := p
      obtain ⟨l, e, rfl⟩ := hx.ptr_inv
      rw [hy.ptr_none_inv]
      simp [Op.equalIn, run_underlying hu]
    case h_6 e p q hu =>
      obtain ⟨α, o⟩ := p
      obtain ⟨β, o'⟩ := q
      obtain ⟨l, hl, rfl⟩ := hx.ptr_inv
      obtain ⟨k, hk, rfl⟩ := hy.ptr_inv
      split at h
      · cases h
      rename_i i hi
      split at h
      · cases h
      rename_i hz
      split at h
      · rename_i hab
        have hab : α = β := hab
        subst hab
        rw [hl] at hk; cases hk
        cases h
        simp [Op.equalIn, run_underlying hu, run_size hi, hz, sameAddr]
        rw [Bool.eq_iff_iff]; simp
      · rename_i hab
        have hab : α ≠ β := hab
        split at h
        · rename_i c1 t1 s1 p c2 t2 s2 q g1 g2
          split at h
          case isFalse => cases h
          rename_i hpq
          rw [Bool.and_eq_true] at hpq
          cases h
          obtain ⟨C, e1, fz, hC, hcl⟩ := cells_clean s hl g1 hpq.1
          obtain ⟨D, e2, gz, hD, hcl2⟩ := cells_clean s hk g2 hpq.2
          have hne : l.b ≠ k.b := fun e => by
            have := s.sep α β l k hab hl hk e (by rw [AMem.own_get g1]; rfl)
            rw [this] at g2; cases g2
          have := run_sameAddr_apart (P := P) (w := w) (a := ⟨l.b, l.p + o, none⟩) (b := ⟨k.b, k.p + o', none⟩) hne hC hD hcl hcl2
          simp [Op.equalIn, run_underlying hu, run_size hi, hz, this]
        · cases h
    case h_7 hu =>
      cases h
      obtain ⟨u, rfl, _⟩ := hy.iface_inv
      rw [hx.nilIface_inv]
      simp [Op.equalIn, run_underlying hu]
    case h_8 hu =>
      cases h
      obtain ⟨u, rfl, _⟩ := hx.iface_inv
      rw [hy.nilIface_inv]
      simp [Op.equalIn, run_underlying hu]
    case h_9 tx vx ty vy hu =>
      obtain ⟨u, rfl, hu1⟩ := hx.iface_inv
      obtain ⟨v, rfl, hv1⟩ := hy.iface_inv
      split at h
      · rename_i hne; cases h
        simp [Op.equalIn, run_underlying hu, hne]
      · rename_i hne
        split at h
        · rename_i i hi
          split at h
          · rename_i hc
            have := ih _ _ _ _ _ _ h hu1 hv1
            simp only [Op.equalIn, Sem.run_bind, run_underlying hu, Result.andThen_ok, hne, if_false, run_typeInfo w hi, hc, Bool.not_true, Bool.false_eq_true, this]
          · cases h
        · cases h
    case h_10 fields xs ys hu =>
      split at h
      · cases h
      rename_i hp
      obtain ⟨us, rfl, hus⟩ := hx.agg_inv
      obtain ⟨vs, rfl, hvs⟩ := hy.agg_inv
      have hfo : P.fieldsOf t = fields := by simp [Program.fieldsOf, hu]
      rw [run_equalIn_struct w n t us.toArray vs.toArray (by rw [hfo]; exact hu) (by simpa using hp), hfo]
      exact eqFields_sound hus hvs ih _ _ h
    case h_11 hu =>
      cases h
      obtain ⟨ad, m, k, rfl, e⟩ := isNone_slice hx
      obtain ⟨bd, m', k', rfl, e'⟩ := isNone_slice hy
      have : ad = none := by cases ad with | none => rfl | some x => simp at e
      subst this
      simp [Op.equalIn, run_underlying hu, ← e']
    case h_12 hu =>
      cases h
      obtain ⟨ad, m, k, rfl, e⟩ := isNone_slice hx
      obtain ⟨bd, m', k', rfl, e'⟩ := isNone_slice hy
      have : bd = none := by cases bd with | none => rfl | some x => simp at e'
      subst this
      cases ad with
      | none => simp at e
      | some ad => simp [Op.equalIn, run_underlying hu]
    case h_13 hu =>
      cases h
      rw [hx.map_none_inv]
      obtain ⟨ad, rfl, e⟩ := isNone_map hy
      simp [Op.equalIn, run_underlying hu, ← e]
    case h_14 hu =>
      cases h
      obtain ⟨l, e, rfl⟩ := hx.map_inv
      rw [hy.map_none_inv]
      simp [Op.equalIn, run_underlying hu]
    case h_15 hu =>
      cases h
      rw [hx.nilFunc_inv, hy.nilFunc_inv]
      simp [Op.equalIn, run_underlying hu]
    case h_16 hu =>
      cases h
      rw [hx.nilFunc_inv]
      obtain ⟨ys, ds, rfl, _⟩ := hy.func_inv
      simp [Op.equalIn, run_underlying hu]
    case h_17 hu =>
      cases h
      rw [hy.nilFunc_inv]
      obtain ⟨ys, ds, rfl, _⟩ := hx.func_inv
      simp [Op.equalIn, run_underlying hu]
    case h_18 => cases h
end
end Go.Ab
