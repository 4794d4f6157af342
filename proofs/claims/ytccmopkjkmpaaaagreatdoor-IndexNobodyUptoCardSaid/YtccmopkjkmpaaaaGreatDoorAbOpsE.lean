/-
  What single operations come to, under the simulation: slices, lengths, assertions, maps.
-/
import Derived.Test.YtccmopkjkmpaaaaGreatDoorAbOpsD
namespace Go.Ab
set_option linter.unusedSimpArgs false
set_option linter.unusedVariables false

section
variable {P : Program} {o : Oper} {a : Act} {ρ : Loc} {M : AMem} {w : World} {β : Type} {r : β}

/-! ### slices -/
/-- optional operands -/
def OR (ρ : Loc) : Option AV → Option Value → Prop
  | none, none => True
  | some x, some y => VR ρ x y
  | _, _ => False

theorem OR.of_list {xs : List AV} {ys : List Value} (h : VL ρ xs ys) : OR ρ xs.head? ys.head? := by
  cases xs with
  | nil => rw [h.list_nil]; trivial
  | cons x xs => obtain ⟨y, yt, rfl, hy, _⟩ := h.list_cons; exact hy

/-- a bound that is there -/
theorem boundK_some {x : Option AV} {d : Nat} {k : Nat → Option β} (h : boundK x d k = some r) :
    ∃ n, k n = some r ∧ ((x = none ∧ n = d) ∨ ∃ kd i, x = some (.int kd i) ∧ 0 ≤ i ∧ n = i.toNat) := by
  unfold boundK at h
  split at h
  · exact ⟨d, h, .inl ⟨rfl, rfl⟩⟩
  · rename_i kd i
    obtain ⟨hb, h⟩ := needB_some h
    exact ⟨i.toNat, h, .inr ⟨kd, i, rfl, of_decide_eq_true hb, rfl⟩⟩
  · cases h

/-- what the model makes of a bound -/
def BoundR (y : Option Value) (n d : Nat) : Prop := (y = none ∧ n = d) ∨ ∃ kd i, y = some (.int kd i) ∧ 0 ≤ i ∧ n = i.toNat

theorem BoundR.of {x : Option AV} {y : Option Value} {n d : Nat} (h : (x = none ∧ n = d) ∨ ∃ kd i, x = some (AV.int kd i) ∧ 0 ≤ i ∧ n = i.toNat) (ho : OR ρ x y) : BoundR y n d := by
  rcases h with ⟨rfl, h⟩ | ⟨kd, i, rfl, h1, h2⟩
  · cases y with
    | none => exact .inl ⟨rfl, h⟩
    | some y => exact ho.elim
  · cases y with
    | none => exact ho.elim
    | some y => exact .inr ⟨kd, i, by rw [VR.int_inv ho], h1, h2⟩

theorem run_sliceBounds2 {isSlice : Bool} {len cap l h : Nat} {lo hi : Option Value} (h1 : BoundR lo l 0) (h2 : BoundR hi h len) (hl : l ≤ h) (hc : h ≤ cap) :
    (Instr.sliceBounds isSlice len cap lo hi none).run P w = .ok (l, h, cap) w := by
  have e1 : ∀ (kd : IntKind) (i : Int) (y : Nat) (c : BoundsCode), 0 ≤ i → i.toNat ≤ y → (Instr.sliceBound (.int kd i) y c).run P w = .ok i.toNat w := fun kd i y c a b => by
    simp only [Instr.sliceBound, asIntOf, Sem.run_bind, Sem.run_pure, Result.andThen_ok]
    rw [if_pos ⟨a, by omega⟩]; rfl
  rcases h1 with ⟨rfl, rfl⟩ | ⟨kd, i, rfl, hi0, rfl⟩ <;> rcases h2 with ⟨rfl, rfl⟩ | ⟨kd', j, rfl, hj0, rfl⟩
  · simp [Instr.sliceBounds]
  · cases isSlice <;> simp [Instr.sliceBounds, e1 kd' j cap _ hj0 hc]
  · simp [Instr.sliceBounds, e1 kd i _ _ hi0 hl]
  · cases isSlice <;> simp [Instr.sliceBounds, e1 kd' j cap _ hj0 hc, e1 kd i _ _ hi0 hl]

theorem run_sliceBounds3 {isSlice : Bool} {len cap l h m : Nat} {lo : Option Value} {kd kd' : IntKind} {j k : Int} (h1 : BoundR lo l 0) (hj : 0 ≤ j) (hk : 0 ≤ k) (hh : h = j.toNat) (hm : m = k.toNat) (hl : l ≤ h) (hc : h ≤ m) (hc' : m ≤ cap) :
    (Instr.sliceBounds isSlice len cap lo (some (.int kd j)) (some (.int kd' k))).run P w = .ok (l, h, m) w := by
  have e1 : ∀ (kd : IntKind) (i : Int) (y : Nat) (c : BoundsCode), 0 ≤ i → i.toNat ≤ y → (Instr.sliceBound (.int kd i) y c).run P w = .ok i.toNat w := fun kd i y c a b => by
    simp only [Instr.sliceBound, asIntOf, Sem.run_bind, Sem.run_pure, Result.andThen_ok]
    rw [if_pos ⟨a, by omega⟩]; rfl
  subst hh; subst hm
  rcases h1 with ⟨rfl, rfl⟩ | ⟨kd, i, rfl, hi0, rfl⟩
  · cases isSlice <;> simp [Instr.sliceBounds, e1 _ k cap _ hk hc', e1 _ j _ _ hj hc]
  · cases isSlice <;> simp [Instr.sliceBounds, e1 _ k cap _ hk hc', e1 _ j _ _ hj hc, e1 _ i _ _ hi0 hl]

theorem add_place (l : Pl) (o n : Nat) : (⟨l.b, l.p + o, none⟩ : Addr).add n = ⟨l.b, l.p + (o + n), none⟩ := by rw [add_none, Nat.add_assoc]

theorem nbeq0 (x : Nat) : Nat.beq x 0 = false ↔ x ≠ 0 := by cases x <;> simp [Nat.beq]

theorem cutA_sound (s : Sim ρ M w) {size : Nat} {b : Option (Nat × Nat)} {len : Nat} {cap : Option Nat} {l h : Nat} {res : SlT} {ad : Option Addr} {cap' : Nat} (hc : cutA M size b len cap l h = some res)
    (hx : VR ρ (.slice b len cap) (.slice ad len cap')) :
    l ≤ h ∧ h ≤ cap' ∧ VR ρ (.slice res.1 res.2.1 res.2.2) (.slice (if cap' = l then ad else ad.map (·.add (l * size))) (h - l) (cap' - l)) := by
  obtain ⟨ad', cap'', he, hn, h1, h2⟩ := hx.slice_inv
  cases he
  unfold cutA at hc
  split at hc
  · rename_i c
    split at hc
    · rename_i hlh
      cases hc
      cases b with
      | none =>
        obtain ⟨rfl, rfl, rfl, e⟩ := h1 rfl
        cases e
        have : l = 0 := by omega
        have : h = 0 := by omega
        subst l; subst h
        exact ⟨by omega, by omega, by simp; exact .slnil⟩
      | some p =>
        obtain ⟨α, o⟩ := p
        obtain ⟨x, rfl, hq⟩ := h2 α o rfl
        rcases hq with ⟨k, hk, rfl, h3⟩ | ⟨rfl, h3⟩
        · have hcc : c = cap' := by rcases h3 with h3 | ⟨h3, _⟩ <;> cases h3; rfl
          subst hcc
          refine ⟨hlh.1, hlh.2, ?_⟩
          by_cases e : c = l
          · simp only [e, if_true]
            have := VR.sl (ρ := ρ) α o (h - l) (some (c - l)) k (c - l) hk (by omega) (.inl rfl)
            rw [e] at this
            simpa using this
          · simp only [e, if_false, Option.map_some]
            rw [add_place]
            exact .sl α (o + l * size) (h - l) (some (c - l)) k (c - l) hk (by omega) (.inl rfl)
        · have hcc : c = 0 ∧ cap' = 0 := by
            rcases h3 with h3 | h3
            · exact absurd h3.1 (by simp)
            · exact ⟨Option.some.inj h3.1, h3.2⟩
          obtain ⟨rfl, rfl⟩ := hcc
          have : l = 0 := by omega
          have : h = 0 := by omega
          subst l; subst h
          exact ⟨by omega, by omega, by simp; exact .sl0 _ _ _ _ (.inr ⟨rfl, rfl⟩)⟩
    · cases hc
  · split at hc
    · rename_i hlh
      have hcap : h ≤ cap' := by omega
      split at hc
      · rename_i e0
        subst e0
        cases hc
        refine ⟨by omega, hcap, ?_⟩
        have : (if cap' = 0 then ad else ad.map fun x => x.add (0 * size)) = ad := by
          split
          · rfl
          · cases ad <;> simp [Addr.add]
        rw [this]
        simp only [Nat.sub_zero]
        cases b with
        | none => obtain ⟨_, _, _, e⟩ := h1 rfl; cases e
        | some p =>
          obtain ⟨α, o⟩ := p
          obtain ⟨x, rfl, hq⟩ := h2 α o rfl
          rcases hq with ⟨k, hk, rfl, h3⟩ | ⟨rfl, h3⟩
          · exact .sl α o h none k cap' hk hcap h3
          · have : h = 0 := by omega
            subst h
            rcases h3 with ⟨_, rfl, rfl⟩ | ⟨h3, _⟩
            · exact .sl0 _ _ _ _ (.inl ⟨rfl, rfl⟩)
            · cases h3
      · rename_i e0
        split at hc
        · rename_i e1
          subst e1
          cases hc
          have : h = l := by omega
          subst this
          refine ⟨by omega, hcap, ?_⟩
          simp only [Nat.sub_self]
          cases ad with
          | none =>
            cases b with
            | none => obtain ⟨_, e, _⟩ := h1 rfl; exact absurd e e0
            | some p => obtain ⟨x, e, _⟩ := h2 p.1 p.2 rfl; cases e
          | some ad =>
            have : (if cap' = h then some ad else (some ad).map fun x => x.add (h * size)) = some (if cap' = h then ad else ad.add (h * size)) := by split <;> rfl
            rw [this]
            exact .sl0 _ _ _ _ (.inl ⟨rfl, rfl⟩)
        · rename_i e1
          split at hc
          · cases hc
          · rename_i p
            obtain ⟨α, o⟩ := p
            split at hc
            · rename_i hz
              cases hc
              refine ⟨by omega, hcap, ?_⟩
              obtain ⟨x, rfl, hq⟩ := h2 α o rfl
              rcases hq with ⟨k, hk, rfl, h3⟩ | ⟨e, _⟩
              · rw [if_neg (by omega), Option.map_some, add_place]
                refine .sl α (o + l * size) (h - l) none k (cap' - l) hk (by omega) (.inr ⟨rfl, ?_⟩)
                rcases h3 with h3 | ⟨_, h3⟩
                · cases h3
                · unfold szOk at hz
                  split at hz
                  · rename_i c sz cl hg
                    obtain ⟨hz, hnz⟩ : sz = size ∧ size ≠ 0 := by simpa [nbeq0] using hz
                    subst hz
                    rcases h3 with h3 | h3
                    · exact .inl h3
                    · right
                      have hks : k.sz = sz := by
                        cases s.blk α k _ hk hg with
                        | cells _ _ _ _ C e fz a1 a2 a3 a4 a5 => exact (a5 hnz).1
                      rw [hks] at h3 ⊢
                      have : l * sz + (cap' - l) * sz = cap' * sz := by rw [← Nat.add_mul]; congr 1; omega
                      omega
                  · rename_i c hg
                    rcases h3 with h3 | h3
                    · exact .inl h3
                    · cases s.blk α k _ hk hg with
                      | ro _ _ C e fz a1 a2 a3 => exact .inl a3
                  · cases hz
              · exact absurd e (by omega)
            · cases hc
    · split at hc
      · rename_i hn1 hk
        obtain ⟨hlh, hkn⟩ := hk
        unfold knownA at hkn
        cases b with
        | none => cases hkn
        | some p =>
          obtain ⟨α, o⟩ := p
          dsimp only at hkn
          split at hkn
          · rename_i c sz cl hg
            obtain ⟨hα, hnz, hz, hle⟩ : α ≠ 0 ∧ size ≠ 0 ∧ sz = size ∧ o + h * size ≤ c.length := by simpa [nbeq0] using hkn
            subst hz
            obtain ⟨x, rfl, hq⟩ := h2 α o rfl
            rcases hq with ⟨k, hk, rfl, h3⟩ | ⟨_, ⟨_, h3, _⟩ | ⟨h3, _⟩⟩
            · have h3 : k.sz = 0 ∨ o + cap' * k.sz = k.lim := by rcases h3 with h3 | ⟨_, h3⟩; cases h3; exact h3
              have hb : k.sz = sz ∧ c.length ≤ k.lim := by
                cases s.blk α k _ hk hg with
                | cells _ _ _ _ C e fz a1 a2 a3 a4 a5 => exact ⟨(a5 hnz).1, (a5 hnz).2.2.1⟩
              rw [hb.1] at h3
              have h3 : o + cap' * sz = k.lim := by rcases h3 with h3 | h3; exact absurd h3 hnz; exact h3
              have hcap : h ≤ cap' := by
                have : h * sz ≤ cap' * sz := by omega
                exact Nat.le_of_mul_le_mul_right this (Nat.pos_of_ne_zero hnz)
              split at hc
              · rename_i e0
                subst e0
                cases hc
                refine ⟨by omega, hcap, ?_⟩
                have : (if cap' = 0 then some (⟨k.b, k.p + o, none⟩ : Addr) else (some (⟨k.b, k.p + o, none⟩ : Addr)).map fun x => x.add (0 * sz)) = some ⟨k.b, k.p + o, none⟩ := by
                  split
                  · rfl
                  · simp [Addr.add]
                rw [this]
                simp only [Nat.sub_zero]
                exact .sl α o h none k cap' hk hcap (.inr ⟨rfl, .inr (by rw [hb.1]; exact h3)⟩)
              · split at hc
                · rename_i e1
                  subst e1
                  cases hc
                  refine ⟨by omega, hcap, ?_⟩
                  simp only [Nat.sub_self]
                  have : (if cap' = l then some (⟨k.b, k.p + o, none⟩ : Addr) else (some (⟨k.b, k.p + o, none⟩ : Addr)).map fun x => x.add (l * sz)) = some (if cap' = l then ⟨k.b, k.p + o, none⟩ else (⟨k.b, k.p + o, none⟩ : Addr).add (l * sz)) := by split <;> rfl
                  rw [this]
                  exact .sl0 _ _ _ _ (.inl ⟨rfl, rfl⟩)
                · cases hc
                  refine ⟨by omega, hcap, ?_⟩
                  rw [if_neg (by omega), Option.map_some, add_place]
                  refine .sl α (o + l * sz) (h - l) none k (cap' - l) hk (by omega) (.inr ⟨rfl, .inr ?_⟩)
                  rw [hb.1]
                  have : l * sz + (cap' - l) * sz = cap' * sz := by rw [← Nat.add_mul]; congr 1; omega
                  omega
            · exact absurd h3 hα
            · cases h3
          · cases hkn
      · cases hc

theorem cut3A_sound {size : Nat} {b : Option (Nat × Nat)} {len : Nat} {cap : Option Nat} {l h m : Nat} {res : SlT} {ad : Option Addr} {cap' : Nat} (hc : cut3A size b len cap l h m = some res)
    (hx : VR ρ (.slice b len cap) (.slice ad len cap')) :
    l ≤ h ∧ h ≤ m ∧ m ≤ cap' ∧ VR ρ (.slice res.1 res.2.1 res.2.2) (.slice (if m = l then ad else ad.map (·.add (l * size))) (h - l) (m - l)) := by
  obtain ⟨ad', cap'', he, hn, h1, h2⟩ := hx.slice_inv
  cases he
  unfold cut3A at hc
  by_cases hlh : l ≤ h ∧ h ≤ m ∧ m ≤ cap.getD len
  · rw [if_pos hlh] at hc
    cases hc
    cases b with
    | none =>
      obtain ⟨rfl, rfl, rfl, rfl⟩ := h1 rfl
      have : m = 0 := by have := hlh.2.2; simp at this; omega
      have : l = 0 := by omega
      have : h = 0 := by omega
      subst m; subst l; subst h
      exact ⟨by omega, by omega, by omega, by simp; exact .slnil⟩
    | some p =>
      obtain ⟨α, o⟩ := p
      obtain ⟨x, rfl, hq⟩ := h2 α o rfl
      rcases hq with ⟨k, hk, rfl, h3⟩ | ⟨rfl, h3⟩
      · have hm : m ≤ cap' := by
          rcases h3 with h3 | ⟨h3, _⟩
          · subst h3; exact hlh.2.2
          · subst h3; have := hlh.2.2; simp at this; omega
        refine ⟨hlh.1, hlh.2.1, hm, ?_⟩
        by_cases e : m = l
        · simp only [e, if_true]
          have := VR.sl (ρ := ρ) α o (h - l) (some (m - l)) k (m - l) hk (by omega) (.inl rfl)
          rw [e] at this
          simpa using this
        · simp only [e, if_false, Option.map_some]
          rw [add_place]
          exact .sl α (o + l * size) (h - l) (some (m - l)) k (m - l) hk (by omega) (.inl rfl)
      · have hm : m = 0 := by
          have hm := hlh.2.2
          rcases h3 with h3 | h3
          · rw [h3.1] at hm; simp at hm; omega
          · rw [h3.1] at hm; simp at hm; omega
        have : l = 0 := by omega
        have : h = 0 := by omega
        subst m; subst l; subst h
        exact ⟨by omega, by omega, by omega, by simp; exact .sl0 _ _ _ _ (.inr ⟨rfl, rfl⟩)⟩
  · rw [if_neg hlh] at hc
    cases hc

theorem sliceK_sound (s : Sim ρ M w) {t : TypeId} {x : AV} {x' : Value} {lo hi mx : Option AV} {lo' hi' mx' : Option Value} {kv : AV → Option β} (hx : VR ρ x x') (hlo : OR ρ lo lo') (hhi : OR ρ hi hi') (hmx : OR ρ mx mx')
    (h : sliceK P M t x lo hi mx kv = some r) :
    ∃ v u, kv v = some r ∧ (Instr.sliceAt t x' lo' hi' mx').run P w = .ok u w ∧ VR ρ v u := by
  unfold sliceK at h
  split at h
  · rename_i t' hu
    split at h
    · obtain ⟨l, h, hl⟩ := boundK_some h
      obtain ⟨hh, h, hhh⟩ := boundK_some h
      obtain ⟨hb, h⟩ := needB_some h
      simp only [Bool.and_eq_true, decide_eq_true_eq] at hb
      have b1 := BoundR.of hl hlo
      have b2 := BoundR.of hhh hhi
      have hm : mx' = none := by cases mx' with | none => rfl | some y => exact hmx.elim
      subst hm
      rw [hx.str_inv]
      refine ⟨_, .string ⟨((t'.take hh).drop l).toArray⟩, h, ?_, VR.str_mk _⟩
      have hsz : (⟨t'.toArray⟩ : ByteArray).size = t'.length := by simp [ByteArray.size]
      have := run_sliceBounds2 (P := P) (w := w) (isSlice := false) (len := t'.length) (cap := t'.length) b1 b2 hb.1 hb.2
      simp only [Instr.sliceAt, Instr.slice, Sem.run_bind, run_underlying hu, Result.andThen_ok, hsz, this, Option.isSome_none, Bool.false_eq_true, if_false, Sem.run_pure]
      congr 2
      apply ByteArray.ext
      apply Array.ext'
      simp [List.drop_take]
    · cases h
  · rename_i e b len cap hu
    obtain ⟨ad, cap', rfl, _⟩ := hx.slice_inv
    split at h
    · rename_i ie hie
      obtain ⟨l, h, hl⟩ := boundK_some h
      obtain ⟨hh, h, hhh⟩ := boundK_some h
      obtain ⟨res, hc, h⟩ := bindO_some h
      obtain ⟨c1, c2, c3⟩ := cutA_sound s hc hx
      have b1 := BoundR.of hl hlo
      have b2 := BoundR.of hhh hhi
      have hm : mx' = none := by cases mx' with | none => rfl | some y => exact hmx.elim
      subst hm
      refine ⟨_, _, h, ?_, c3⟩
      have := run_sliceBounds2 (P := P) (w := w) (isSlice := true) (len := len) (cap := cap') b1 b2 c1 c2
      simp only [Instr.sliceAt, Instr.slice, Sem.run_bind, run_underlying hu, Result.andThen_ok, this, run_size hie, Sem.run_pure]
    · rename_i ie m hv hie
      obtain ⟨l, h, hl⟩ := boundK_some h
      obtain ⟨hh, h, hhh⟩ := boundK_some h
      obtain ⟨mm, h, hmm⟩ := boundK_some h
      obtain ⟨res, hc, hfin⟩ := bindO_some h
      clear h
      obtain ⟨c1, c2, c3, c4⟩ := cut3A_sound hc hx
      have b1 := BoundR.of hl hlo
      rcases hhh with ⟨e1, _⟩ | ⟨kd, i, e1, hi0, rfl⟩
      · cases e1
      rcases hmm with ⟨e2, _⟩ | ⟨kd', j, e2, hj0, rfl⟩
      · cases e2
      cases e1; cases e2
      have hhi' : hi' = some (.int kd i) := by
        cases hi' with
        | none => exact hhi.elim
        | some y => rw [VR.int_inv hhi]
      have hmx' : mx' = some (.int kd' j) := by
        cases mx' with
        | none => exact hmx.elim
        | some y => rw [VR.int_inv hmx]
      subst hhi'; subst hmx'
      refine ⟨_, _, hfin, ?_, c4⟩
      have := run_sliceBounds3 (P := P) (w := w) (isSlice := true) (len := len) (cap := cap') (kd := kd) (kd' := kd') b1 hi0 hj0 rfl rfl c1 c2 c3
      simp only [Instr.sliceAt, Instr.slice, Sem.run_bind, run_underlying hu, Result.andThen_ok, this, run_size hie, Sem.run_pure]
    · cases h
  · rename_i n e p hu
    obtain ⟨α, o⟩ := p
    obtain ⟨k, hk, rfl⟩ := hx.ptr_inv
    split at h
    · rename_i ie hie
      obtain ⟨l, h, hl⟩ := boundK_some h
      obtain ⟨hh, h, hhh⟩ := boundK_some h
      obtain ⟨hb, h⟩ := needB_some h
      simp only [Bool.and_eq_true, decide_eq_true_eq] at hb
      have b1 := BoundR.of hl hlo
      have b2 := BoundR.of hhh hhi
      have hm : mx' = none := by cases mx' with | none => rfl | some y => exact hmx.elim
      subst hm
      refine ⟨_, .slice (some (if n = l then ⟨k.b, k.p + o, none⟩ else (⟨k.b, k.p + o, none⟩ : Addr).add (l * ie.size))) (hh - l) (n - l), h, ?_, ?_⟩
      · have := run_sliceBounds2 (P := P) (w := w) (isSlice := false) (len := n) (cap := n) b1 b2 hb.1 hb.2
        simp only [Instr.sliceAt, Sem.run_bind, run_underlying hu, Result.andThen_ok, Instr.sureAddr, Sem.run_pure, this, run_size hie]
      · by_cases e : n = l
        · simp only [e, if_true]
          exact .sl α o (hh - l) (some (l - l)) k (l - l) hk (by omega) (.inl rfl)
        · simp only [e, if_false]
          rw [add_place]
          exact .sl α (o + l * ie.size) (hh - l) (some (n - l)) k (n - l) hk (by omega) (.inl rfl)
    · cases h
  · cases h
end
end Go.Ab
