/-
  slices.Insert at a row of unknown capacity: two runs of the evaluator (no room; room) are one answer.
-/
import Derived.Test.YtccmopkjkmpaaaaGreatDoorAbCut
namespace Go.Ab
set_option linter.unusedVariables false
set_option linter.unusedSimpArgs false

theorem BlkR.closedCells {ρ ρ' : Loc} {w : World} {c : List AV} {sz : Nat} {cl : Cl} {l : Pl} (h : c.all closedA = true) (hb : BlkR ρ w (.cells c sz cl) l) : BlkR ρ' w (.cells c sz cl) l := by
  cases hb with
  | cells _ _ _ _ C e fz h1 h2 h3 h4 h5 => exact .cells c sz cl l C e fz h1 (h2.closed h) h3 h4 h5

/-- the row, and what was to be put in, are no more; a new number stands for the new row -/
def insMem (M : AMem) (α β N : Nat) (content : List AV) (size : Nat) : AMem := ⟨N, ((M.t.del α).del β).set M.next (.cells content size .yes)⟩

theorem insMem_get (M : AMem) (α β N : Nat) (content : List AV) (size γ : Nat) : (insMem M α β N content size).get γ = if γ = M.next then some (.cells content size .yes) else if γ = β then none else if γ = α then none else M.get γ := by
  unfold insMem AMem.get
  rw [Tri.get_set, Tri.get_del, Tri.get_del]

theorem insJoin {ρ ρ1 : Loc} {M : AMem} {w w' : World} (s : Sim ρ M w) {α β : Nat} {lα lβ : Pl} (hα : ρ α = some lα) (hβ : ρ β = some lβ) (gα : M.own α = true) (gβ : M.own β = true)
    (hsz : w.heap.size ≤ w'.heap.size) (hos : w'.os = w.os) (htp : w'.tape = w.tape) (hou : w'.output = w.output) (hkeep : ∀ b, b < w.heap.size → b ≠ lα.b → b ≠ lβ.b → w'.heap[b]? = w.heap[b]?)
    {content : List AV} {size : Nat} (hclosed : content.all closedA = true) {lγ : Pl} (hb : BlkR ρ1 w' (.cells content size .yes) lγ) (hin : lγ.b < w'.heap.size) (hwhere : w.heap.size ≤ lγ.b ∨ lγ.b = lα.b ∨ lγ.b = lβ.b)
    {n1 capγ : Nat} (hcap : n1 ≤ capγ) (hlim : lγ.sz = 0 ∨ 0 + capγ * lγ.sz = lγ.lim) {N : Nat} (hN : M.next < N) :
    VR (ρ.upd M.next lγ) (.slice (some (M.next, 0)) n1 none) (.slice (some ⟨lγ.b, lγ.p, none⟩) n1 capγ) ∧ Sim (ρ.upd M.next lγ) (insMem M α β N content size) w' ∧ Ext ρ M w (ρ.upd M.next lγ) (insMem M α β N content size) w' := by
  have hle := Loc.le_upd ρ M.next lγ s.none_next
  have hsame := Loc.upd_same ρ M.next lγ
  have hα' := s.dom α lα hα
  have hβ' := s.dom β lβ hβ
  have hgetα : M.get α ≠ none := fun e => by unfold AMem.own at gα; rw [e] at gα; cases gα
  have hgetβ : M.get β ≠ none := fun e => by unfold AMem.own at gβ; rw [e] at gβ; cases gβ
  -- what an old number other than these two is
  have hold : ∀ γ B, γ ≠ M.next → (insMem M α β N content size).get γ = some B → γ ≠ α ∧ γ ≠ β ∧ M.get γ = some B := fun γ B hne hB => by
    rw [insMem_get, if_neg hne] at hB
    by_cases e1 : γ = β
    · rw [if_pos e1] at hB; cases hB
    · rw [if_neg e1] at hB
      by_cases e2 : γ = α
      · rw [if_pos e2] at hB; cases hB
      · rw [if_neg e2] at hB; exact ⟨e2, e1, hB⟩
  have hownOld : ∀ γ, γ ≠ M.next → (insMem M α β N content size).own γ = true → γ ≠ α ∧ γ ≠ β ∧ M.own γ = true := fun γ hne ho => by
    unfold AMem.own at ho
    cases e : (insMem M α β N content size).get γ with
    | none => rw [e] at ho; cases ho
    | some B =>
      rw [e] at ho
      obtain ⟨e1, e2, e3⟩ := hold γ B hne e
      refine ⟨e1, e2, ?_⟩
      unfold AMem.own
      rw [e3]; exact ho
  have hapart : ∀ γ k, γ ≠ α → γ ≠ β → ρ γ = some k → M.get γ ≠ none → k.b ≠ lα.b ∧ k.b ≠ lβ.b := fun γ k e1 e2 hk hg =>
    ⟨fun e => hg (s.sep α γ lα k (Ne.symm e1) hα hk e.symm gα), fun e => hg (s.sep β γ lβ k (Ne.symm e2) hβ hk e.symm gβ)⟩
  refine ⟨?_, ⟨fun γ k hk => ?_, fun γ k hk => ?_, fun γ k B hk hB => ?_, fun γ δ k m hne h1 h2 h3 h4 => ?_, fun γ hγ => ?_⟩, ⟨hle, ?_, hsz, hos, htp, hou, fun γ k hk ho => ?_, fun γ k h1 h2 => ?_, fun b hb' hno => ?_⟩⟩
  · have := VR.sl (ρ := ρ.upd M.next lγ) M.next 0 n1 none lγ capγ hsame hcap (.inr ⟨rfl, hlim⟩)
    simpa using this
  · show γ < N
    by_cases e : γ = M.next
    · omega
    · rw [Loc.upd_ne _ _ e] at hk
      have := s.dom γ k hk
      omega
  · by_cases e : γ = M.next
    · subst e; rw [hsame] at hk; cases hk; exact hin
    · rw [Loc.upd_ne _ _ e] at hk
      have := s.inb γ k hk
      omega
  · by_cases e : γ = M.next
    · subst e
      rw [hsame] at hk; cases hk
      rw [insMem_get, if_pos rfl] at hB; cases hB
      exact hb.closedCells hclosed
    · obtain ⟨e1, e2, e3⟩ := hold γ B e hB
      rw [Loc.upd_ne _ _ e] at hk
      obtain ⟨a1, a2⟩ := hapart γ k e1 e2 hk (by rw [e3]; simp)
      exact BlkR.mono hle (hkeep k.b (s.inb γ k hk) a1 a2) (s.blk γ k B hk e3)
  · cases hD : (insMem M α β N content size).get δ with
    | none => rfl
    | some B =>
      exfalso
      by_cases e : γ = M.next
      · subst e
        rw [hsame] at h1; cases h1
        have e' : δ ≠ M.next := Ne.symm hne
        obtain ⟨e1, e2, e3⟩ := hold δ B e' hD
        rw [Loc.upd_ne _ _ e'] at h2
        obtain ⟨a1, a2⟩ := hapart δ m e1 e2 h2 (by rw [e3]; simp)
        have := s.inb δ m h2
        rcases hwhere with h | h | h
        · omega
        · exact a1 (h3.symm.trans h)
        · exact a2 (h3.symm.trans h)
      · obtain ⟨f1, f2, f3⟩ := hownOld γ e h4
        rw [Loc.upd_ne _ _ e] at h1
        by_cases e' : δ = M.next
        · subst e'
          rw [hsame] at h2; cases h2
          have := s.inb γ k h1
          rcases hwhere with h | h | h
          · omega
          · exact hgetα (s.sep γ α k lα f1 h1 hα (h3.trans h) f3)
          · exact hgetβ (s.sep γ β k lβ f2 h1 hβ (h3.trans h) f3)
        · obtain ⟨e1, e2, e3⟩ := hold δ B e' hD
          rw [Loc.upd_ne _ _ e'] at h2
          have := s.sep γ δ k m hne h1 h2 h3 f3
          rw [e3] at this; cases this
  · have hγ : N ≤ γ := hγ
    rw [insMem_get, if_neg (by omega)]
    split
    · rfl
    · split
      · rfl
      · exact s.wf γ (by omega)
  · show M.next ≤ N
    omega
  · have hne : γ ≠ M.next := fun e => by rw [e, s.none_next] at hk; cases hk
    exact (hownOld γ hne ho).2.2
  · by_cases e : γ = M.next
    · subst e
      rw [hsame] at h2; cases h2
      refine ⟨Nat.le_refl _, ?_⟩
      rcases hwhere with h | h | h
      · exact .inl h
      · exact .inr ⟨α, lα, hα, h.symm, gα⟩
      · exact .inr ⟨β, lβ, hβ, h.symm, gβ⟩
    · rw [Loc.upd_ne _ _ e, h1] at h2; cases h2
  · refine hkeep b hb' (fun e => ?_) (fun e => ?_)
    · have := hno α lα hα e.symm
      rw [gα] at this; cases this
    · have := hno β lβ hβ e.symm
      rw [gβ] at this; cases this

/-- one insertion into a row: the row, what is put in, what becomes of it -/
structure Ins where
  size : Nat
  n : Nat
  i : Nat
  α : Nat
  β : Nat
  nin : Nat
  cs : List AV
  vs : List AV
  content : List AV

def Ins.lin (c : Ins) (z : List AV) : List (Nat × ABlk) := [(c.α, .cells (c.cs ++ z) c.size .yes), (c.β, .cells c.vs 0 .yes)]
def Ins.args (c : Ins) (cap : Option Nat) : List AV := [.slice (some (c.α, 0)) c.n cap, .int .i64 c.i, .slice (some (c.β, 0)) 1 (some 1)]

structure Ins.Ok (c : Ins) (call : CallA) (f : FuncId) : Prop where
  num : c.size ≠ 0 ∧ c.cs.length = c.n * c.size ∧ c.α < c.nin ∧ c.β < c.nin ∧ c.α ≠ c.β ∧ c.α ≠ 0 ∧ c.content.all closedA = true
  tight : ∃ γ MA, call f (c.args (some c.n)) (memOf c.nin (c.lin [])) = some (.slice (some (γ, 0)) (c.n + 1) none, MA) ∧ MA.get γ = some (.cells c.content c.size .yes) ∧ c.nin ≤ γ
  roomy : ∀ d z, z.length = c.size → ∃ MB, call f (c.args (some (c.n + 1 + d))) (memOf c.nin (c.lin z)) = some (.slice (some (c.α, 0)) (c.n + 1) (some (c.n + 1 + d)), MB) ∧ MB.get c.α = some (.cells c.content c.size .yes)

theorem linGet {c : Ins} {z : List AV} (hne : c.α ≠ c.β) (γ : Nat) (B : ABlk) (h : (memOf c.nin (c.lin z)).get γ = some B) : (γ = c.α ∧ B = .cells (c.cs ++ z) c.size .yes) ∨ (γ = c.β ∧ B = .cells c.vs 0 .yes) := by
  have := memOf_get h
  simp only [Ins.lin, List.mem_cons, Prod.mk.injEq, List.not_mem_nil, or_false] at this
  exact this

/-- the memory of the two blocks alone -/
theorem insSim {ρ : Loc} {M : AMem} {w : World} (s : Sim ρ M w) {c : Ins} {z : List AV} (hne : c.α ≠ c.β) (hn : M.next = c.nin) {lα : Pl} (hα : ρ c.α = some lα) (gα : M.own c.α = true) (gβ : M.get c.β = some (.cells c.vs 0 .yes))
    (hb : BlkR ρ w (.cells (c.cs ++ z) c.size .yes) lα) : Sim ρ (memOf c.nin (c.lin z)) w := by
  have hown : ∀ γ, (memOf c.nin (c.lin z)).own γ = true → M.own γ = true := fun γ ho => by
    unfold AMem.own at ho
    cases e : (memOf c.nin (c.lin z)).get γ with
    | none => rw [e] at ho; cases ho
    | some B =>
      rcases linGet hne γ B e with ⟨rfl, _⟩ | ⟨rfl, _⟩
      · exact gα
      · unfold AMem.own; rw [gβ]; rfl
  have hnone : ∀ γ, M.get γ = none → (memOf c.nin (c.lin z)).get γ = none := fun γ hg => by
    cases e : (memOf c.nin (c.lin z)).get γ with
    | none => rfl
    | some B =>
      rcases linGet hne γ B e with ⟨rfl, _⟩ | ⟨rfl, _⟩
      · unfold AMem.own at gα; rw [hg] at gα; cases gα
      · rw [hg] at gβ; cases gβ
  refine ⟨fun γ l hl => by show γ < c.nin; rw [← hn]; exact s.dom γ l hl, s.inb, fun γ l B hl hB => ?_, fun γ δ l k h0 h1 h2 h3 h4 => hnone δ (s.sep γ δ l k h0 h1 h2 h3 (hown γ h4)), fun γ hγ => hnone γ (s.wf γ (by rw [hn]; exact hγ))⟩
  rcases linGet hne γ B hB with ⟨rfl, rfl⟩ | ⟨rfl, rfl⟩
  · rw [hα] at hl; cases hl; exact hb
  · exact s.blk _ l _ hl gβ

theorem rigid_list {C : List Value} : ∀ (k a : Nat), a + k ≤ C.length → Spare C a (a + k) → ∃ z : List AV, z.length = k ∧ ∀ ρ : Loc, VL ρ z ((C.drop a).take k)
  | 0, a, _, _ => ⟨[], rfl, fun ρ => by simpa using VL.nil ρ⟩
  | k + 1, a, hl, hs => by
    have ha : a < C.length := by omega
    obtain ⟨x, hx⟩ := hs a C[a] (Nat.le_refl _) (by omega) (List.getElem?_eq_getElem ha)
    obtain ⟨z, hz1, hz2⟩ := rigid_list k (a + 1) (by omega) (fun j v h1 h2 h3 => hs j v (by omega) (by omega) h3)
    refine ⟨x :: z, by simp [hz1], fun ρ => ?_⟩
    have e : (C.drop a).take (k + 1) = C[a] :: (C.drop (a + 1)).take k := by
      rw [List.drop_eq_getElem_cons ha, List.take_succ_cons]
    rw [e]
    exact VL.cons (hx ρ) (hz2 ρ)

theorem ins_sound {P : Program} {call : CallA} (hc : CallOk P call) {f : FuncId} {c : Ins} (ok : c.Ok call f) {M : AMem} (hn : M.next = c.nin) (gα : M.get c.α = some (.cells c.cs c.size .yes)) (gβ : M.get c.β = some (.cells c.vs 0 .yes)) {N : Nat} (hN : M.next < N)
    {ρ : Loc} {w : World} {vs : List Value} (s : Sim ρ M w) (hg : GlobR P ρ) (hv : VL ρ (c.args none) vs) :
    Calls P f vs.toArray w (fun e w' => ∃ ρ' x, e = .returned x ∧ VR ρ' (.slice (some (M.next, 0)) (c.n + 1) none) x ∧ Sim ρ' (insMem M c.α c.β N c.content c.size) w' ∧ Ext ρ M w ρ' (insMem M c.α c.β N c.content c.size) w') := by
  obtain ⟨k1, k2, k3, k4, k5, k6, k7⟩ := ok.num
  have oα : M.own c.α = true := by unfold AMem.own; rw [gα]; rfl
  have oβ : M.own c.β = true := by unfold AMem.own; rw [gβ]; rfl
  obtain ⟨y0, t0, rfl, hy0, h1⟩ := hv.list_cons
  obtain ⟨y1, t1, rfl, hy1, h2⟩ := h1.list_cons
  obtain ⟨y2, t2, rfl, hy2, h3⟩ := h2.list_cons
  obtain rfl := h3.list_nil
  obtain ⟨ad, cap, rfl, hncap, _, q2⟩ := hy0.slice_inv
  obtain ⟨x0, rfl, q3⟩ := q2 c.α 0 rfl
  obtain ⟨lα, hα, rfl, q4⟩ : ∃ l, ρ c.α = some l ∧ x0 = ⟨l.b, l.p + 0, none⟩ ∧ (l.sz = 0 ∨ 0 + cap * l.sz = l.lim) := by
    rcases q3 with ⟨l, e1, e2, e3⟩ | ⟨_, ⟨_, e3, _⟩ | ⟨e3, _⟩⟩
    · refine ⟨l, e1, e2, ?_⟩
      rcases e3 with e3 | ⟨_, e3⟩
      · cases e3
      · exact e3
    · exact absurd e3 k6
    · cases e3
  obtain ⟨bd, capB, rfl, _, _, r2⟩ := hy2.slice_inv
  obtain ⟨lβ, hβ⟩ : ∃ l, ρ c.β = some l := by
    obtain ⟨xb, _, r3⟩ := r2 c.β 0 rfl
    rcases r3 with ⟨l, e1, _⟩ | ⟨e1, _⟩
    · exact ⟨l, e1⟩
    · cases e1
  have hbα := s.blk c.α lα _ hα gα
  cases hbα with
  | cells _ _ _ _ C e fz a1 a2 a3 a4 a5 =>
    obtain ⟨b1, b2, b3, b4⟩ := a5 k1
    have hlim : cap * c.size = lα.lim := by
      rcases q4 with q4 | q4
      · exact absurd (b1.symm.trans q4) k1
      · rw [b1] at q4; omega
    have hkeepOf : ∀ (Ms : AMem) (ρ1 : Loc) (Mb : AMem) (w' : World), (∀ γ B, Ms.get γ = some B → γ = c.α ∨ γ = c.β) → Ext ρ Ms w ρ1 Mb w' → ∀ b, b < w.heap.size → b ≠ lα.b → b ≠ lβ.b → w'.heap[b]? = w.heap[b]? := fun Ms ρ1 Mb w' hms he b hb n1 n2 => he.keep b hb fun γ k hk hkb => by
      unfold AMem.own
      cases e' : Ms.get γ with
      | none => rfl
      | some B =>
        rcases hms γ B e' with rfl | rfl
        · rw [hα] at hk; cases hk; exact absurd hkb.symm n1
        · rw [hβ] at hk; cases hk; exact absurd hkb.symm n2
    by_cases hroom : cap = c.n
    · -- no room
      obtain ⟨γ, MA, hcall, hγ, hγn⟩ := ok.tight
      have hsA : Sim ρ (memOf c.nin (c.lin [])) w := insSim s k5 hn hα oα gβ (by rw [List.append_nil]; exact .cells _ _ _ _ C e fz a1 a2 a3 a4 a5)
      have hvA : VL ρ (c.args (some c.n)) [.slice (some ⟨lα.b, lα.p + 0, none⟩) c.n cap, y1, .slice bd 1 capB] := by
        refine VL.cons ?_ (VL.cons hy1 (VL.cons hy2 (VL.nil _)))
        exact .sl c.α 0 c.n (some c.n) lα cap hα hncap (.inl (by rw [hroom]))
      refine (hc f _ _ _ _ hcall ρ w _ hsA hg hvA).mono ?_
      rintro e' w' ⟨ρ1, x, rfl, hx, s1, e1⟩
      obtain ⟨ad', capγ, rfl, hc1, _, z2⟩ := hx.slice_inv
      obtain ⟨x', rfl, z3⟩ := z2 γ 0 rfl
      obtain ⟨lγ, hlγ, rfl, z4⟩ : ∃ l, ρ1 γ = some l ∧ x' = ⟨l.b, l.p + 0, none⟩ ∧ (l.sz = 0 ∨ 0 + capγ * l.sz = l.lim) := by
        rcases z3 with ⟨l, f1, f2, f3⟩ | ⟨f1, _⟩
        · refine ⟨l, f1, f2, ?_⟩
          rcases f3 with f3 | ⟨_, f3⟩
          · cases f3
          · exact f3
        · cases f1
      have hρn : ρ γ = none := by
        cases e2 : ρ γ with
        | none => rfl
        | some l => have := s.dom γ l e2; omega
      have hfr := (e1.fresh γ lγ hρn hlγ).2
      have hwhere : w.heap.size ≤ lγ.b ∨ lγ.b = lα.b ∨ lγ.b = lβ.b := by
        rcases hfr with h | ⟨δ, k, g1, g2, g3⟩
        · exact .inl h
        · unfold AMem.own at g3
          cases e2 : (memOf c.nin (c.lin [])).get δ with
          | none => rw [e2] at g3; cases g3
          | some B =>
            rcases linGet k5 δ B e2 with ⟨rfl, _⟩ | ⟨rfl, _⟩
            · rw [hα] at g1; cases g1; exact .inr (.inl g2.symm)
            · rw [hβ] at g1; cases g1; exact .inr (.inr g2.symm)
      obtain ⟨j1, j2, j3⟩ := insJoin (ρ1 := ρ1) s hα hβ oα oβ e1.size e1.os e1.tape e1.output (hkeepOf _ ρ1 MA w' (fun γ B h => (linGet k5 γ B h).imp And.left And.left) e1) k7 (s1.blk γ lγ _ hlγ hγ) (s1.inb γ lγ hlγ) hwhere hc1 z4 hN
      exact ⟨_, _, rfl, j1, j2, j3⟩
    · -- room
      obtain ⟨d, hd⟩ : ∃ d, cap = c.n + 1 + d := ⟨cap - (c.n + 1), by omega⟩
      have hmul : c.n * c.size + c.size ≤ cap * c.size := by
        have := Nat.mul_le_mul_right c.size (show c.n + 1 ≤ cap by omega)
        rw [Nat.add_mul, Nat.one_mul] at this
        exact this
      obtain ⟨z, hz1, hz2⟩ := rigid_list (C := C) c.size (lα.p + c.cs.length) (by omega) (fun j v h1 h2 h3 => b4 j v h1 (by omega) h3)
      have hcsl := a2.1
      have htk : ((C.drop lα.p).take c.cs.length).length = c.cs.length := hcsl.symm
      have hvz : VL ρ (c.cs ++ z) ((C.drop lα.p).take (c.cs ++ z).length) := by
        have e1 : (C.drop lα.p).take (c.cs ++ z).length = (C.drop lα.p).take c.cs.length ++ (C.drop (lα.p + c.cs.length)).take c.size := by
          rw [List.length_append, hz1, List.take_add, List.drop_drop]
        rw [e1]
        exact a2.append (hz2 ρ)
      have hbB : BlkR ρ w (.cells (c.cs ++ z) c.size .yes) lα := .cells _ _ _ _ C e fz a1 hvz a3 a4 (fun _ => ⟨b1, b2, by rw [List.length_append, hz1]; omega, fun j v h1 h2 h3 => b4 j v (by rw [List.length_append] at h1; omega) h2 h3⟩)
      obtain ⟨MB, hcall, hMB⟩ := ok.roomy d z hz1
      have hsB := insSim s k5 hn hα oα gβ hbB
      have hvB : VL ρ (c.args (some (c.n + 1 + d))) [.slice (some ⟨lα.b, lα.p + 0, none⟩) c.n cap, y1, .slice bd 1 capB] := by
        refine VL.cons ?_ (VL.cons hy1 (VL.cons hy2 (VL.nil _)))
        exact .sl c.α 0 c.n (some (c.n + 1 + d)) lα cap hα hncap (.inl (by rw [hd]))
      refine (hc f _ _ _ _ hcall ρ w _ hsB hg hvB).mono ?_
      rintro e' w' ⟨ρ1, x, rfl, hx, s1, e1⟩
      obtain ⟨ad', capγ, rfl, hc1, _, z2⟩ := hx.slice_inv
      obtain ⟨x', rfl, z3⟩ := z2 c.α 0 rfl
      have hα1 := e1.sub c.α lα hα
      obtain ⟨rfl, hcg⟩ : x' = ⟨lα.b, lα.p + 0, none⟩ ∧ capγ = c.n + 1 + d := by
        rcases z3 with ⟨l, f1, f2, f3⟩ | ⟨f1, _⟩
        · rw [hα1] at f1; cases f1
          refine ⟨f2, ?_⟩
          rcases f3 with f3 | ⟨f3, _⟩
          · exact (Option.some.inj f3).symm
          · cases f3
        · cases f1
      obtain ⟨j1, j2, j3⟩ := insJoin (ρ1 := ρ1) s hα hβ oα oβ e1.size e1.os e1.tape e1.output (hkeepOf _ ρ1 MB w' (fun γ B h => (linGet k5 γ B h).imp And.left And.left) e1) k7 (s1.blk c.α lα _ hα1 hMB) (s1.inb c.α lα hα1) (.inr (.inl rfl)) hc1 (.inr (by rw [b1, hcg, ← hd]; omega)) hN
      exact ⟨_, _, rfl, j1, j2, j3⟩

/-- does this insertion fit -/
def Ins.fits (c : Ins) (args : List AV) (M : AMem) : Bool := Nat.beq M.next c.nin && (beqA.beqL (beqA 9) args (c.args none) && (beqB (M.get c.α) (.cells c.cs c.size .yes) && beqB (M.get c.β) (.cells c.vs 0 .yes)))

theorem ins_hook {P : Program} {call : CallA} (hc : CallOk P call) {f : FuncId} {c : Ins} (ok : c.Ok call f) {args : List AV} {M : AMem} (hf : c.fits args M = true) {N : Nat} (hN : c.nin < N)
    {ρ : Loc} {w : World} {vs : List Value} (s : Sim ρ M w) (hg : GlobR P ρ) (hv : VL ρ args vs) :
    Calls P f vs.toArray w (fun e w' => ∃ ρ' x, e = .returned x ∧ VR ρ' (.slice (some (c.nin, 0)) (c.n + 1) none) x ∧ Sim ρ' (insMem M c.α c.β N c.content c.size) w' ∧ Ext ρ M w ρ' (insMem M c.α c.β N c.content c.size) w') := by
  unfold Ins.fits at hf
  simp only [Bool.and_eq_true] at hf
  obtain ⟨h1, h2, h3, h4⟩ := hf
  have h1 := Nat.eq_of_beq_eq_true h1
  have h2 := beqL9_eq h2
  subst h2
  have := ins_sound hc ok h1 (beqB_eq h3) (beqB_eq h4) (N := N) (by omega) s hg hv
  rw [h1] at this
  exact this
end Go.Ab
