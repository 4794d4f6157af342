/-
  Cut points: a call at known arguments, over known blocks, is answered by what a theorem of its own has checked; all other blocks stay as they are.
-/
import Derived.Test.YtccmopkjkmpaaaaGreatDoorAbLaw
namespace Go.Ab
set_option linter.unusedVariables false
set_option linter.unusedSimpArgs false

def memOf (n : Nat) (l : List (Nat × ABlk)) : AMem := ⟨n, l.foldl (fun t p => t.set p.1 p.2) .nil⟩

def beqEs : List (AV × AV × Nat) → List (AV × AV × Nat) → Bool
  | [], [] => true
  | e :: x, f :: y => beqA 9 e.1 f.1 && beqA 9 e.2.1 f.2.1 && Nat.beq e.2.2 f.2.2 && beqEs x y
  | _, _ => false

/-- are these the same blocks -/
def beqB : Option ABlk → ABlk → Bool
  | some (.cells c s l), .cells d t m => beqA.beqL (beqA 9) c d && Nat.beq s t && l == m
  | some (.ro c), .ro d => beqA.beqL (beqA 9) c d
  | some (.map a x), .map b y => beqEs a b && Nat.beq x y
  | _, _ => false

theorem beqEs_eq : ∀ {x y : List (AV × AV × Nat)}, beqEs x y = true → x = y
  | [], [], _ => rfl
  | [], _ :: _, h => by cases h
  | _ :: _, [], h => by cases h
  | (a, b, c) :: x, (d, e, f) :: y, h => by
    simp only [beqEs, Bool.and_eq_true] at h
    obtain ⟨⟨⟨h1, h2⟩, h3⟩, h4⟩ := h
    rw [beqA_eq _ _ _ h1, beqA_eq _ _ _ h2, Nat.eq_of_beq_eq_true h3, beqEs_eq h4]

theorem beqL9_eq : ∀ {x y : List AV}, beqA.beqL (beqA 9) x y = true → x = y
  | [], [], _ => rfl
  | [], _ :: _, h => by simp [beqA.beqL] at h
  | _ :: _, [], h => by simp [beqA.beqL] at h
  | a :: x, b :: y, h => by
    simp only [beqA.beqL, Bool.and_eq_true] at h
    rw [beqA_eq _ _ _ h.1, beqL9_eq h.2]

theorem beqB_eq {x : Option ABlk} {b : ABlk} (h : beqB x b = true) : x = some b := by
  unfold beqB at h
  split at h
  · simp only [Bool.and_eq_true] at h
    obtain ⟨⟨h1, h2⟩, h3⟩ := h
    rw [beqL9_eq h1, Nat.eq_of_beq_eq_true h2, eq_of_beq h3]
  · rw [beqL9_eq h]
  · simp only [Bool.and_eq_true] at h
    rw [beqEs_eq h.1, Nat.eq_of_beq_eq_true h.2]
  · cases h

/-- the memory has these blocks -/
def subM (l : List (Nat × ABlk)) (M : AMem) : Bool := l.all fun p => beqB (M.get p.1) p.2

theorem memOf_get {n : Nat} {l : List (Nat × ABlk)} {α : Nat} {B : ABlk} (h : (memOf n l).get α = some B) : (α, B) ∈ l := by
  have key : ∀ (l : List (Nat × ABlk)) (t : Tri ABlk), (l.foldl (fun t p => t.set p.1 p.2) t).get α = some B → (α, B) ∈ l ∨ t.get α = some B := by
    intro l
    induction l with
    | nil => intro t h; exact .inr h
    | cons p l ih =>
      intro t h
      rcases ih _ h with h | h
      · exact .inl (List.mem_cons_of_mem _ h)
      · rw [Tri.get_set] at h
        by_cases e : α = p.1
        · rw [if_pos e] at h
          cases h
          rw [e]
          exact .inl (List.mem_cons_self ..)
        · rw [if_neg e] at h; exact .inr h
  rcases key l .nil h with h | h
  · exact h
  · rw [Tri.get_nil] at h; cases h

theorem memOf_sub {n : Nat} {l : List (Nat × ABlk)} {M : AMem} (h : subM l M = true) {α : Nat} {B : ABlk} (hB : (memOf n l).get α = some B) : M.get α = some B :=
  beqB_eq (List.all_eq_true.1 h _ (memOf_get hB))

/-- blocks are forgotten -/
theorem Sim.forget {ρ : Loc} {M M' : AMem} {w : World} (s : Sim ρ M w) (hn : M'.next = M.next) (h : ∀ α B, M'.get α = some B → M.get α = some B) : Sim ρ M' w := by
  have hown : ∀ α, M'.own α = true → M.own α = true := fun α ho => by
    unfold AMem.own at ho ⊢
    cases e : M'.get α with
    | none => rw [e] at ho; cases ho
    | some B => rw [e] at ho; rw [h α B e]; exact ho
  refine ⟨fun α l hl => by rw [hn]; exact s.dom α l hl, s.inb, fun α l B hl hB => s.blk α l B hl (h α B hB), fun α β l k hne h1 h2 h3 h4 => ?_, fun α hα => ?_⟩
  · have := s.sep α β l k hne h1 h2 h3 (hown α h4)
    cases e : M'.get β with
    | none => rfl
    | some B => rw [h β B e] at this; cases this
  · have := s.wf α (by rw [← hn]; exact hα)
    cases e : M'.get α with
    | none => rfl
    | some B => rw [h α B e] at this; cases this

/-- what a call does over some blocks it does over more -/
theorem CallOk.frame {P : Program} {call : CallA} (hc : CallOk P call) {f : FuncId} {args : List AV} {Ms Mb M M2 : AMem} {v : AV} (h : call f args Ms = some (v, Mb)) (hn : Ms.next = M.next) (hsub : ∀ α B, Ms.get α = some B → M.get α = some B)
    (hn2 : M2.next = Mb.next) (h2 : ∀ α B, M2.get α = some B → (Mb.get α = some B ∧ (M.next ≤ α ∨ Ms.get α ≠ none)) ∨ (M.get α = some B ∧ Ms.get α = none ∧ α < M.next))
    {ρ : Loc} {w : World} {vs : List Value} (s : Sim ρ M w) (hg : GlobR P ρ) (hv : VL ρ args vs) :
    Calls P f vs.toArray w (fun e w' => ∃ ρ' x, e = .returned x ∧ VR ρ' v x ∧ Sim ρ' M2 w' ∧ Ext ρ M w ρ' M2 w') := by
  have hown : ∀ α, Ms.own α = true → M.own α = true := fun α ho => by
    unfold AMem.own at ho ⊢
    cases e : Ms.get α with
    | none => rw [e] at ho; cases ho
    | some B => rw [e] at ho; rw [hsub α B e]; exact ho
  have hsome : ∀ α, Ms.own α = true → Ms.get α ≠ none := fun α ho e => by unfold AMem.own at ho; rw [e] at ho; cases ho
  have s1 := s.forget (M' := Ms) hn hsub
  refine (hc f args Ms v Mb h ρ w vs s1 hg hv).mono ?_
  rintro e w' ⟨ρ', x, rfl, hx, sb, eb⟩
  -- old numbers
  have hold : ∀ α l, ρ' α = some l → α < M.next → ρ α = some l := fun α l hl hα => by
    cases e : ρ α with
    | some l0 => have := eb.sub α l0 e; rw [hl] at this; cases this; rfl
    | none => have := (eb.fresh α l e hl).1; omega
  have hown2 : ∀ α, M2.own α = true → (Mb.own α = true ∧ (M.next ≤ α ∨ Ms.get α ≠ none)) ∨ (M.own α = true ∧ Ms.get α = none ∧ α < M.next) := fun α ho => by
    unfold AMem.own at ho ⊢
    cases e : M2.get α with
    | none => rw [e] at ho; cases ho
    | some B =>
      rw [e] at ho
      rcases h2 α B e with ⟨a1, a2⟩ | ⟨a1, a2⟩
      · left; rw [a1]; exact ⟨ho, a2⟩
      · right; rw [a1]; exact ⟨ho, a2⟩
  -- a number that the call did not see lies apart from what the call owns
  have hapart : ∀ α l, ρ α = some l → M.get α ≠ none → Ms.get α = none → ∀ β k, ρ' β = some k → k.b = l.b → (Mb.own β = true ∧ (M.next ≤ β ∨ Ms.get β ≠ none)) → False := fun α l hl ha hs β k hk hb ho => by
    by_cases hβ : β < M.next
    · have hk0 := hold β k hk hβ
      have h3 := eb.muts β k hk0 ho.1
      have hne : β ≠ α := fun e => hsome β h3 (by rw [e]; exact hs)
      exact ha (s.sep β α k l hne hk0 hl hb (hown β h3))
    · cases e : ρ β with
      | some k0 => have := s.dom β k0 e; omega
      | none =>
        rcases (eb.fresh β k e hk).2 with h4 | ⟨γ, m, g1, g2, g3⟩
        · have := s.inb α l hl; omega
        · have hne : γ ≠ α := fun e => hsome γ g3 (by rw [e]; exact hs)
          exact ha (s.sep γ α m l hne g1 hl (by rw [g2, hb]) (hown γ g3))
  refine ⟨ρ', x, rfl, hx, ⟨fun α l hl => by rw [hn2]; exact sb.dom α l hl, sb.inb, fun α l B hl hB => ?_, fun α β l k hne h3 h4 h5 h6 => ?_, fun α hα => ?_⟩, eb.sub, ?_, eb.size, eb.os, eb.tape, eb.output, fun α l hl ho => ?_, fun α l e1 e2 => ?_, fun b hb hno => eb.keep b hb fun β k hk hkb => ?_⟩
  · rcases h2 α B hB with ⟨a1, _⟩ | ⟨a1, a2, a3⟩
    · exact sb.blk α l B hl a1
    · have hl0 := hold α l hl a3
      refine BlkR.mono eb.sub ?_ (s.blk α l B hl0 a1)
      refine eb.keep l.b (s.inb α l hl0) fun β k hk hkb => ?_
      cases e : Ms.own β with
      | false => rfl
      | true =>
        have hne : β ≠ α := fun e' => hsome β e (by rw [e']; exact a2)
        have := s.sep β α k l hne hk hl0 hkb (hown β e)
        rw [a1] at this; cases this
  · cases e : M2.get β with
    | none => rfl
    | some B =>
      exfalso
      rcases hown2 α h6 with o1 | ⟨o1, o2, o3⟩
      · rcases h2 β B e with ⟨a1, _⟩ | ⟨a1, a2, a3⟩
        · have := sb.sep α β l k hne h3 h4 h5 o1.1
          rw [a1] at this; cases this
        · exact hapart β k (hold β k h4 a3) (by rw [a1]; simp) a2 α l h3 h5 o1
      · have hl0 := hold α l h3 o3
        rcases h2 β B e with ⟨a1, a2⟩ | ⟨a1, a2, a3⟩
        · by_cases hβ : β < M.next
          · have hk0 := hold β k h4 hβ
            have hms : Ms.get β ≠ none := by rcases a2 with a2 | a2; omega; exact a2
            have := s.sep α β l k hne hl0 hk0 h5 o1
            cases e' : Ms.get β with
            | none => exact hms e'
            | some B' => rw [hsub β B' e'] at this; cases this
          · cases e' : ρ β with
            | some k0 => have := s.dom β k0 e'; omega
            | none =>
              rcases (eb.fresh β k e' h4).2 with h7 | ⟨γ, m, g1, g2, g3⟩
              · have := s.inb α l hl0; omega
              · have hne' : α ≠ γ := fun e'' => hsome γ g3 (by rw [← e'']; exact o2)
                have := s.sep α γ l m hne' hl0 g1 (by rw [g2, h5]) o1
                have h8 := hown γ g3
                unfold AMem.own at h8
                rw [this] at h8; cases h8
        · have := s.sep α β l k hne hl0 (hold β k h4 a3) h5 o1
          rw [a1] at this; cases this
  · cases e : M2.get α with
    | none => rfl
    | some B =>
      exfalso
      have hnx := eb.next
      rcases h2 α B e with ⟨a1, _⟩ | ⟨_, _, a3⟩
      · rw [sb.wf α (by rw [← hn2]; exact hα)] at a1; cases a1
      · omega
  · have := eb.next; omega
  · rcases hown2 α ho with o1 | o1
    · exact hown α (eb.muts α l hl o1.1)
    · exact o1.1
  · obtain ⟨g1, g2⟩ := eb.fresh α l e1 e2
    refine ⟨by omega, ?_⟩
    rcases g2 with g2 | ⟨β, k, g3, g4, g5⟩
    · exact .inl g2
    · exact .inr ⟨β, k, g3, g4, hown β g5⟩
  · cases e : Ms.own β with
    | false => rfl
    | true => have := hno β k hk hkb; rw [hown β e] at this; cases this

/-- a call that is known: its arguments, the blocks it looks at, its value, what is no more, what is new or otherwise -/
structure Cut where
  args : List AV
  nin : Nat
  lin : List (Nat × ABlk)
  v : AV
  nout : Nat
  ldel : List Nat
  lset : List (Nat × ABlk)

def hasKey (k : Nat) : List (Nat × ABlk) → Bool
  | [] => false
  | p :: r => Nat.beq p.1 k || hasKey k r

def hasNat (k : Nat) : List Nat → Bool
  | [] => false
  | p :: r => Nat.beq p k || hasNat k r

/-- the check of a cut -/
def Cut.holds (c : Cut) (call : CallA) (f : FuncId) : Bool :=
  match call f c.args (memOf c.nin c.lin) with
  | some (v, M) => beqA 9 v c.v && Nat.beq M.next c.nout && (c.lset.all fun p => beqB (M.get p.1) p.2 && (Nat.ble c.nin p.1 || hasKey p.1 c.lin)) &&
      (c.lin.all fun p => hasNat p.1 c.ldel || hasKey p.1 c.lset || beqB (M.get p.1) p.2)
  | none => false

def Cut.fits (c : Cut) (args : List AV) (M : AMem) : Bool := Nat.beq M.next c.nin && beqA.beqL (beqA 9) args c.args && subM c.lin M

def Cut.apply (c : Cut) (M : AMem) : AMem := ⟨c.nout, c.lset.foldl (fun t p => t.set p.1 p.2) (c.ldel.foldl (fun t k => t.del k) M.t)⟩

theorem apply_get {c : Cut} {M : AMem} {α : Nat} {B : ABlk} (h : (c.apply M).get α = some B) : (α, B) ∈ c.lset ∨ (M.get α = some B ∧ hasKey α c.lset = false ∧ hasNat α c.ldel = false) := by
  have k1 : ∀ (l : List (Nat × ABlk)) (t : Tri ABlk), (l.foldl (fun t p => t.set p.1 p.2) t).get α = some B → (α, B) ∈ l ∨ (t.get α = some B ∧ hasKey α l = false) := by
    intro l
    induction l with
    | nil => intro t h; exact .inr ⟨h, rfl⟩
    | cons p l ih =>
      intro t h
      rcases ih _ h with h | ⟨h, hk⟩
      · exact .inl (List.mem_cons_of_mem _ h)
      · rw [Tri.get_set] at h
        by_cases e : α = p.1
        · rw [if_pos e] at h
          cases h
          rw [e]
          exact .inl (List.mem_cons_self ..)
        · rw [if_neg e] at h
          refine .inr ⟨h, ?_⟩
          have : Nat.beq p.1 α = false := by
            cases q : Nat.beq p.1 α with
            | false => rfl
            | true => exact absurd (Nat.eq_of_beq_eq_true q).symm e
          simp only [hasKey, this, hk, Bool.or_self]
  have k2 : ∀ (l : List Nat) (t : Tri ABlk), (l.foldl (fun t k => t.del k) t).get α = some B → t.get α = some B ∧ hasNat α l = false := by
    intro l
    induction l with
    | nil => intro t h; exact ⟨h, rfl⟩
    | cons p l ih =>
      intro t h
      obtain ⟨h, hk⟩ := ih _ h
      rw [Tri.get_del] at h
      by_cases e : α = p
      · rw [if_pos e] at h; cases h
      · rw [if_neg e] at h
        refine ⟨h, ?_⟩
        have : Nat.beq p α = false := by
          cases q : Nat.beq p α with
          | false => rfl
          | true => exact absurd (Nat.eq_of_beq_eq_true q).symm e
        simp only [hasNat, this, hk, Bool.or_self]
  rcases k1 _ _ h with h | ⟨h, hk⟩
  · exact .inl h
  · obtain ⟨h, hd⟩ := k2 _ _ h
    exact .inr ⟨h, hk, hd⟩

theorem hasKey_of {k : Nat} : ∀ {l : List (Nat × ABlk)}, hasKey k l = true → ∃ B, (k, B) ∈ l
  | [], h => by cases h
  | p :: r, h => by
    simp only [hasKey, Bool.or_eq_true] at h
    rcases h with h | h
    · obtain ⟨a, B⟩ := p
      have : a = k := Nat.eq_of_beq_eq_true h
      subst this
      exact ⟨B, List.mem_cons_self ..⟩
    · obtain ⟨B, hB⟩ := hasKey_of h
      exact ⟨B, List.mem_cons_of_mem _ hB⟩

theorem memOf_some {n : Nat} {l : List (Nat × ABlk)} {k : Nat} (h : hasKey k l = true) : (memOf n l).get k ≠ none := by
  have key : ∀ (l : List (Nat × ABlk)) (t : Tri ABlk), (hasKey k l = true ∨ t.get k ≠ none) → (l.foldl (fun t p => t.set p.1 p.2) t).get k ≠ none := by
    intro l
    induction l with
    | nil => intro t h; rcases h with h | h; cases h; exact h
    | cons p l ih =>
      intro t h
      refine ih _ ?_
      rcases h with h | h
      · simp only [hasKey, Bool.or_eq_true] at h
        rcases h with h | h
        · right; rw [Tri.get_set, if_pos (Nat.eq_of_beq_eq_true h).symm]; simp
        · exact .inl h
      · right
        rw [Tri.get_set]
        by_cases e : k = p.1
        · rw [if_pos e]; simp
        · rw [if_neg e]; exact h
  exact key l .nil (.inl h)

theorem cut_sound {P : Program} {call : CallA} (hc : CallOk P call) {f : FuncId} {c : Cut} (hh : c.holds call f = true) {args : List AV} {M : AMem} (hf : c.fits args M = true)
    {ρ : Loc} {w : World} {vs : List Value} (s : Sim ρ M w) (hg : GlobR P ρ) (hv : VL ρ args vs) :
    Calls P f vs.toArray w (fun e w' => ∃ ρ' x, e = .returned x ∧ VR ρ' c.v x ∧ Sim ρ' (c.apply M) w' ∧ Ext ρ M w ρ' (c.apply M) w') := by
  unfold Cut.holds at hh
  split at hh
  · rename_i v Mb hcall
    simp only [Bool.and_eq_true, List.all_eq_true, Bool.or_eq_true] at hh
    obtain ⟨⟨⟨h1, h2⟩, h3⟩, h4⟩ := hh
    have h1 := beqA_eq _ _ _ h1
    subst h1
    have h2 := Nat.eq_of_beq_eq_true h2
    unfold Cut.fits at hf
    simp only [Bool.and_eq_true] at hf
    obtain ⟨⟨f1, f2⟩, f3⟩ := hf
    have f1 := Nat.eq_of_beq_eq_true f1
    have f2 := beqL9_eq f2
    subst f2
    have hsub : ∀ α B, (memOf c.nin c.lin).get α = some B → M.get α = some B := fun α B h => memOf_sub f3 h
    refine hc.frame hcall (show c.nin = M.next from f1.symm) hsub h2.symm (fun α B hB => ?_) s hg hv
    rcases apply_get hB with hB | ⟨hB, k1, k2⟩
    · obtain ⟨a1, a2⟩ := h3 _ hB
      refine .inl ⟨beqB_eq a1, ?_⟩
      rcases a2 with a2 | a2
      · exact .inl (by rw [f1]; exact Nat.le_of_ble_eq_true a2)
      · exact .inr (memOf_some a2)
    · have hlt : α < M.next := by
        rcases Nat.lt_or_ge α M.next with q | q
        · exact q
        · rw [s.wf α q] at hB; cases hB
      cases e : (memOf c.nin c.lin).get α with
      | none => exact .inr ⟨hB, rfl, hlt⟩
      | some B' =>
        have hm := memOf_get e
        have hM := hsub α B' e
        rw [hB] at hM; cases hM
        rcases h4 _ hm with (a | a) | a
        · rw [k2] at a; cases a
        · rw [k1] at a; cases a
        · exact .inl ⟨beqB_eq a, .inr (by simp)⟩
  · cases hh

/-- the hook that answers by cuts where one fits, else by a call of its own -/
def cutAt (cs : List Cut) (other : List AV → AMem → Option (AV × AMem)) : List AV → AMem → Option (AV × AMem) := fun args M =>
  match cs with
  | [] => other args M
  | c :: r => match c.fits args M with
    | true => some (c.v, c.apply M)
    | false => cutAt r other args M

theorem cutAt_sound {P : Program} {call : CallA} (hc : CallOk P call) {f : FuncId} {other : List AV → AMem → Option (AV × AMem)} (ho : ∀ args M, other args M = none ∨ other args M = call f args M) : ∀ {cs : List Cut}, (∀ c ∈ cs, c.holds call f = true) →
    ∀ {args : List AV} {M : AMem} {v : AV} {M' : AMem}, cutAt cs other args M = some (v, M') → ∀ ρ w vs, Sim ρ M w → GlobR P ρ → VL ρ args vs →
    Calls P f vs.toArray w (fun e w' => ∃ ρ' x, e = .returned x ∧ VR ρ' v x ∧ Sim ρ' M' w' ∧ Ext ρ M w ρ' M' w')
  | [], _, args, M, v, M', h, ρ, w, vs, s, hg, hv => by
    have h : other args M = some (v, M') := h
    rcases ho args M with e | e
    · rw [e] at h; cases h
    · rw [e] at h
      exact hc f args M v M' h ρ w vs s hg hv
  | c :: r, hcs, args, M, v, M', h, ρ, w, vs, s, hg, hv => by
    unfold cutAt at h
    split at h
    · rename_i hf
      cases h
      exact cut_sound hc (hcs c (List.mem_cons_self ..)) hf s hg hv
    · exact cutAt_sound hc ho (fun c hc => hcs c (List.mem_cons_of_mem _ hc)) h ρ w vs s hg hv
end Go.Ab
