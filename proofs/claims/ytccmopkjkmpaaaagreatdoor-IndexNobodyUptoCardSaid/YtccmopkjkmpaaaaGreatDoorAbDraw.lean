/-
  Regions that draw their order: one order, evaluated, tells all of them.
-/
import Derived.Test.YtccmopkjkmpaaaaGreatDoorAbCode
import Derived.Orders
namespace Go.Ab
set_option linter.unusedSimpArgs false
set_option linter.unusedVariables false

theorem keepFrom_get {fr : Fr} {x : Nat} {v : AV} : ∀ (l : List Nat) (acc : Fr), (keepFrom fr l acc).get x = some v → (x ∈ l ∧ fr.get x = some v) ∨ acc.get x = some v := by
  intro l
  induction l with
  | nil => intro acc h; exact .inr h
  | cons t ts ih =>
    intro acc h
    simp only [keepFrom] at h
    rcases ih _ h with ⟨h1, h2⟩ | h1
    · exact .inl ⟨List.mem_cons_of_mem _ h1, h2⟩
    · split at h1
      · rename_i u hu
        rw [Tri.get_set] at h1
        by_cases e : x = t
        · subst e; rw [if_pos rfl] at h1; cases h1; exact .inl ⟨List.mem_cons_self .., hu⟩
        · rw [if_neg e] at h1; exact .inr h1
      · exact .inr h1

theorem keepFrom_has {fr : Fr} {x : Nat} {v : AV} (hv : fr.get x = some v) : ∀ (l : List Nat) (acc : Fr), (x ∈ l ∨ acc.get x = some v) → (keepFrom fr l acc).get x = some v := by
  intro l
  induction l with
  | nil => intro acc h; rcases h with h | h; exact absurd h List.not_mem_nil; exact h
  | cons t ts ih =>
    intro acc h
    simp only [keepFrom]
    apply ih
    by_cases e : x = t
    · subst e; rw [hv]; exact .inr (by rw [Tri.get_set, if_pos rfl])
    · rcases h with h | h
      · exact .inl ((List.mem_cons.1 h).resolve_left e)
      · refine .inr ?_
        split
        · rw [Tri.get_set, if_neg e]; exact h
        · exact h

theorem beqL_eq {eq : AV → AV → Bool} (h : ∀ x y, eq x y = true → x = y) : ∀ a b, beqA.beqL eq a b = true → a = b := by
  intro a
  induction a with
  | nil => intro b hb; cases b with
    | nil => rfl
    | cons y ys => simp [beqA.beqL] at hb
  | cons x xs ih => intro b hb; cases b with
    | nil => simp [beqA.beqL] at hb
    | cons y ys =>
      simp only [beqA.beqL, Bool.and_eq_true] at hb
      rw [h x y hb.1, ih ys hb.2]

theorem beqA_eq : ∀ n x y, beqA n x y = true → x = y := by
  intro n
  induction n with
  | zero => intro x y h; simp [beqA] at h
  | succ n ih =>
    intro x y h
    have hl := beqL_eq ih
    unfold beqA at h
    split at h
    · simp at h; rw [h]
    · simp at h; rw [h.1, h.2]
    · simp at h; rw [h]
    · simp at h; rw [h]
    · simp at h; rw [h.1.1, h.1.2, h.2]
    · simp at h; rw [h]
    · simp only [Bool.and_eq_true, decide_eq_true_eq] at h; rw [h.1.1, hl _ _ h.1.2, hl _ _ h.2]
    · rfl
    · simp only [Bool.and_eq_true] at h; rw [Nat.eq_of_beq_eq_true h.1, ih _ _ h.2]
    · rfl
    · rw [hl _ _ h]
    · rw [hl _ _ h]
    · cases h

theorem beqBlk_eq {x : Option ABlk} {b : ABlk} (h : beqBlk x b = true) : x = some b := by
  unfold beqBlk at h
  split at h
  · simp only [Bool.and_eq_true, beq_iff_eq] at h
    rw [beqL_eq (beqA_eq 9) _ _ h.1.1, Nat.eq_of_beq_eq_true h.1.2, beqCl_eq h.2]
  · rw [Nat.eq_of_beq_eq_true h]
  · cases h

section
variable {P : Program} {β : Type} {r : β} {nt : Nat} {call : CallA} {ops : Array Oper}

theorem lateK_some {M : AMem} : ∀ {tr : List LateA} {k : Option β}, lateK P M tr k = some r → k = some r ∧ ∀ t ∈ tr, t.sk = false →
    (∀ α b, t.al = some (α, b) → M.get α = some b) ∧ (t.al = none → freeA P t.fr t.o = true ∨ opK P t.fr M t.o (fun v' _ => needB (beqA 9 t.v v') (some ())) (fun _ _ => none) = some ()) := by
  intro tr
  induction tr with
  | nil => intro k h; exact ⟨h, fun t ht => absurd ht List.not_mem_nil⟩
  | cons t ts ih =>
    intro k h
    unfold lateK at h
    split at h
    · rename_i hs
      obtain ⟨h1, h2⟩ := ih h
      refine ⟨h1, fun u hu hsk => ?_⟩
      rcases List.mem_cons.1 hu with rfl | hu
      · rw [hs] at hsk; cases hsk
      · exact h2 u hu hsk
    · rename_i α b hs ha
      obtain ⟨h0, h⟩ := needB_some h
      obtain ⟨h1, h2⟩ := ih h
      refine ⟨h1, fun u hu hsk => ?_⟩
      rcases List.mem_cons.1 hu with rfl | hu
      · refine ⟨fun α' b' e => ?_, fun e => ?_⟩
        · rw [ha] at e; cases e; exact beqBlk_eq h0
        · rw [ha] at e; cases e
      · exact h2 u hu hsk
    · rename_i hs ha
      split at h
      · rename_i hfree
        obtain ⟨h1, h2⟩ := ih h
        refine ⟨h1, fun u hu hsk => ?_⟩
        rcases List.mem_cons.1 hu with rfl | hu
        · refine ⟨fun α' b' e => ?_, fun e => .inl hfree⟩
          rw [ha] at e; cases e
        · exact h2 u hu hsk
      · obtain ⟨⟨⟩, h0, h⟩ := bindO_some h
        obtain ⟨h1, h2⟩ := ih h
        refine ⟨h1, fun u hu hsk => ?_⟩
        rcases List.mem_cons.1 hu with rfl | hu
        · refine ⟨fun α' b' e => ?_, fun e => .inr h0⟩
          rw [ha] at e; cases e
        · exact h2 u hu hsk

theorem sliceK_same {M M' : AMem} {t : TypeId} {a : Option (Nat × Nat)} {l c : Nat} {lo hi mx : Option AV} {kv : AV → Option β} : sliceK P M t (.slice a l (some c)) lo hi mx kv = sliceK P M' t (.slice a l (some c)) lo hi mx kv := by
  unfold sliceK
  cases P.underlying t with
  | none => rfl
  | some d => cases d <;> rfl

/-- what does not look at the memory gives the same at any -/
theorem freeA_same {fr : Fr} {o : Oper} (h : freeA P fr o = true) (M M' : AMem) : opK P fr M o (fun v _ => some v) (fun _ _ => none) = opK P fr M' o (fun v _ => some v) (fun _ _ => none) := by
  unfold freeA at h
  split at h
  · rename_i x hx
    unfold opK
    simp only [hx]
  · rename_i x hx
    unfold opK
    simp only [hx]
  · rename_i t x lo hi mx hx
    unfold fixedA at h
    split at h
    · rename_i a l c hv
      unfold opK
      simp only [hx, hv]
      have e : ∀ (y : AV) (k : AV → Option AV), goO (some y) k = k y := fun _ _ => rfl
      rw [e, e]
      simp only [sliceK_same (M := M) (M' := M')]
    · cases h
  · cases h

/-! ### what must come ahead -/
theorem mem_depsA {i : Nat} : ∀ {es : List Edge}, i ∈ depsA es → ∃ e ∈ es, Region.binds .any e = true ∧ i = e.on
  | [], h => by simp [depsA] at h
  | e :: es, h => by
    unfold depsA at h
    split at h
    · rename_i hb
      rcases List.mem_cons.1 h with rfl | h
      · exact ⟨e, List.mem_cons_self .., hb, rfl⟩
      · obtain ⟨e', h1, h2⟩ := mem_depsA h
        exact ⟨e', List.mem_cons_of_mem _ h1, h2⟩
    · obtain ⟨e', h1, h2⟩ := mem_depsA h
      exact ⟨e', List.mem_cons_of_mem _ h1, h2⟩

theorem ancW_listed {listed : Array Bool} (hcl : ∀ j o, ops[j]? = some o → listed.getD j false = true → ∀ e ∈ o.after, Region.binds .any e = true → listed.getD e.on false = true) :
    ∀ (f : Nat) (todo : List Nat) (m : Nat) (acc : List Nat), (∀ x ∈ todo, listed.getD x false = true) → (∀ x ∈ acc, listed.getD x false = true) → ∀ i ∈ ancW ops f todo m acc, listed.getD i false = true := by
  intro f
  induction f with
  | zero => intro todo m acc _ ha i hi; exact ha i (by simpa [ancW] using hi)
  | succ f ih =>
    intro todo m acc ht ha i hi
    cases todo with
    | nil => exact ha i (by simpa [ancW] using hi)
    | cons x todo =>
      have hx := ht x (List.mem_cons_self ..)
      have ht' : ∀ y ∈ todo, listed.getD y false = true := fun y hy => ht y (List.mem_cons_of_mem _ hy)
      unfold ancW at hi
      split at hi
      · split at hi
        · rename_i o ho
          refine ih _ _ _ (fun y hy => ?_) (fun y hy => ?_) i hi
          · rcases List.mem_append.1 hy with hy | hy
            · obtain ⟨e, he, hb, rfl⟩ := mem_depsA hy
              exact hcl x o ho hx e (Array.mem_toList_iff.1 he) hb
            · exact ht' y hy
          · rcases List.mem_cons.1 hy with rfl | hy
            · exact hx
            · exact ha y hy
        · exact ih _ _ _ ht' ha i hi
      · exact ih _ _ _ ht' ha i hi

theorem anc_listed {listed : Array Bool} (hcl : ∀ j o, ops[j]? = some o → listed.getD j false = true → ∀ e ∈ o.after, Region.binds .any e = true → listed.getD e.on false = true) :
    ∀ (f j : Nat), (∀ o, ops[j]? = some o → ∀ e ∈ o.after, Region.binds .any e = true → listed.getD e.on false = true) → ∀ i ∈ ancA ops f j, listed.getD i false = true := by
  intro f j hj i hi
  unfold ancA at hi
  split at hi
  · simp at hi
  · rename_i o ho
    refine ancW_listed hcl _ _ _ _ (fun y hy => ?_) (fun y hy => by simp at hy) i hi
    obtain ⟨e, he, hb, rfl⟩ := mem_depsA hy
    exact hj o ho e (Array.mem_toList_iff.1 he) hb

/-- one item that the evaluation has behind it and the run may still have ahead of it -/
structure ItemOk (P : Program) (ops : Array Oper) (nt : Nat) (fr0 : Fr) (n0 : Nat) (done : List Nat) (fr : Fr) (nx : Nat) (ρ : Loc) (t : LateA) : Prop where
  mem : t.i ∈ done
  op : ops[t.i]? = some t.o
  val : ∀ d, t.o.dst = some d → d < nt ∧ fr.get d = some t.v
  lk : ∀ x v, t.fr.get x = some v → x ∈ looksA ops t.o
  slots : ∀ x v, t.fr.get x = some v → (∃ j ∈ ancA ops ops.size t.i, guardDst ops j = some x ∧ j ∈ done ∧ fr.get x = some v) ∨ (fr0.get x = some v ∧ ∀ j ∈ done, guardDst ops j = some x → t.i ∈ ancA ops ops.size j ∨ j = t.i)
  guard : ∀ j b, t.o.guard = some (j, b) → ∃ d, guardDst ops j = some d ∧ ((∃ c, t.fr.get d = some (.bool c) ∧ (t.sk = !(c == b))) ∨ (t.sk = true ∧ ∃ l, t.fr.get d = some (.tup l)))
  noguard : t.o.guard = none → t.sk = false
  skv : t.sk = true → t.v = undefA ∧ t.al = none
  alc : t.sk = false → isAlloc t.o = true → ∃ α B f, t.al = some (α, B) ∧ allocA P t.fr t.o = some (B, f) ∧ t.v = f α ∧ ρ α = none ∧ n0 ≤ α ∧ α < nx
  nal : t.sk = false → isAlloc t.o = false → t.al = none ∧ isEff P t.o = false
  edg : ∀ e ∈ t.o.after, Region.binds .any e = true → e.on ∈ done ∧ e.on ≠ t.i
  fre : t.sk = false → isAlloc t.o = false → freeA P t.fr t.o = true → ∀ M, opK P t.fr M t.o (fun v _ => some v) (fun _ _ => none) = some t.v

structure DInv (P : Program) (ops : Array Oper) (nt : Nat) (fr0 : Fr) (ρ0 : Loc) (M0 : AMem) (w0 : World) (a0 : Act) (done : List Nat) (L : List LateA) (fr : Fr) (M : AMem) (listed : Array Bool) (a : Act) (ρ : Loc) (w : World) : Prop where
  sim : Sim ρ M w
  ext : Ext ρ0 M0 w0 ρ M w
  size : a.tmps.size = nt
  defs : a.defers = a0.defers
  lsz : listed.size = ops.size
  lst : ∀ i, listed.getD i false = true ↔ (i ∈ done ∧ ∀ t ∈ L, t.i ≠ i)
  clo : ∀ j o, ops[j]? = some o → listed.getD j false = true → ∀ e ∈ o.after, Region.binds .any e = true → listed.getD e.on false = true
  exe : ∀ x v, (∃ j, listed.getD j false = true ∧ guardDst ops j = some x) → fr.get x = some v → VR ρ v (a.tmps.getD x undef)
  old : ∀ x v, (∀ j, listed.getD j false = true → guardDst ops j ≠ some x) → fr0.get x = some v → VR ρ v (a.tmps.getD x undef)
  frs : ∀ x, (∀ j ∈ done, guardDst ops j ≠ some x) → fr.get x = fr0.get x
  uni : ∀ i ∈ done, ∀ j ∈ done, ∀ x, guardDst ops i = some x → guardDst ops j = some x → i = j
  itm : ∀ t ∈ L, ItemOk P ops nt fr0 M0.next done fr M.next ρ t
  pw : L.Pairwise (fun t u => t.i ≠ u.i ∧ (∀ e ∈ u.o.after, Region.binds .any e = true → e.on ≠ t.i) ∧ (∀ α B β C, t.al = some (α, B) → u.al = some (β, C) → α ≠ β))
  dlt : ∀ i ∈ done, i < ops.size

variable {fr0 fr : Fr} {ρ0 ρ : Loc} {M0 M : AMem} {w0 w : World} {a0 a : Act} {done : List Nat} {L : List LateA} {listed : Array Bool}

/-- a pending item that the run may take sees what the evaluation saw -/
theorem DInv.frame (I : DInv P ops nt fr0 ρ0 M0 w0 a0 done L fr M listed a ρ w) {t : LateA} (ht : t ∈ L) (hr : ∀ e ∈ t.o.after, Region.binds .any e = true → listed.getD e.on false = true) : FrR ρ nt t.fr a.tmps := by
  have T := I.itm t ht
  have hanc := anc_listed I.clo ops.size t.i (fun o ho => by rw [T.op] at ho; cases ho; exact hr)
  refine ⟨I.size, fun x v hx => ?_⟩
  rcases T.slots x v hx with ⟨j, hj, hd, _, hv⟩ | ⟨hv, hall⟩
  · exact I.exe x v ⟨j, hanc j hj, hd⟩ hv
  · refine I.old x v (fun j hj hd => ?_) hv
    obtain ⟨hjd, hjL⟩ := (I.lst j).1 hj
    have hnt : listed.getD t.i false ≠ true := fun h => ((I.lst t.i).1 h).2 t ht rfl
    rcases hall j hjd hd with h | h
    · have hanc' := anc_listed I.clo ops.size j (fun o ho e he hb => I.clo j o ho hj e he hb)
      exact hnt (hanc' _ h)
    · exact hjL t ht h.symm

theorem getD_set_iff {listed : Array Bool} {i j : Nat} (hi : i < listed.size) : (listed.setIfInBounds i true).getD j false = true ↔ (j = i ∨ listed.getD j false = true) := by
  by_cases e : j = i
  · subst e; simp [hi]
  · rw [getD_set_ne false (Ne.symm e)]; simp [e]

/-- the item's place in the world's order is taken -/
theorem DInv.took (I : DInv P ops nt fr0 ρ0 M0 w0 a0 done L fr M listed a ρ w) {t : LateA} (ht : t ∈ L) (hr : ∀ e ∈ t.o.after, Region.binds .any e = true → listed.getD e.on false = true)
    {ρ' : Loc} {w' : World} {x : Value} (hle : ρ.le ρ') (s' : Sim ρ' M w') (e' : Ext ρ0 M0 w0 ρ' M w') (hv : VR ρ' t.v x)
    (hfresh : ∀ u ∈ L, u.i ≠ t.i → ∀ α B, u.al = some (α, B) → ρ α = none → ρ' α = none) :
    DInv P ops nt fr0 ρ0 M0 w0 a0 done (L.filter fun u => !(u.i == t.i)) fr M (listed.setIfInBounds t.i true) (a.put t.o.dst x) ρ' w' := by
  have T := I.itm t ht
  have hi : t.i < listed.size := by rw [I.lsz]; exact I.dlt _ T.mem
  have hdst : guardDst ops t.i = t.o.dst := by simp [guardDst, T.op]
  have hnt : listed.getD t.i false ≠ true := fun h => ((I.lst t.i).1 h).2 t ht rfl
  refine ⟨s', e', ?_, (put_defers ..).trans I.defs, by simp [I.lsz], fun i => ?_, fun j o ho hj e he hb => ?_, fun y v hy hv' => ?_, fun y v hy hv' => ?_, I.frs, I.uni, fun u hu => ?_, I.pw.filter _, I.dlt⟩
  · cases hd : t.o.dst <;> simp [Act.put, I.size]
  · rw [getD_set_iff hi, I.lst i]
    constructor
    · rintro (rfl | ⟨h1, h2⟩)
      · exact ⟨T.mem, fun u hu => by simpa using (List.mem_filter.1 hu).2⟩
      · exact ⟨h1, fun u hu => h2 u (List.mem_filter.1 hu).1⟩
    · rintro ⟨h1, h2⟩
      by_cases e : i = t.i
      · exact .inl e
      · refine .inr ⟨h1, fun u hu h => ?_⟩
        exact h2 u (List.mem_filter.2 ⟨hu, by rw [h]; simpa using e⟩) h
  · rw [getD_set_iff hi] at hj ⊢
    rcases hj with rfl | hj
    · rw [T.op] at ho; cases ho; exact .inr (hr e he hb)
    · exact .inr (I.clo j o ho hj e he hb)
  · obtain ⟨j, hj, hjd⟩ := hy
    rw [getD_set_iff hi] at hj
    by_cases e : t.o.dst = some y
    · obtain ⟨h1, h2⟩ := T.val y e
      rw [h2] at hv'; cases hv'
      rw [e, getD_put_eq _ _ _ (by rw [I.size]; exact h1)]
      exact hv
    · rcases hj with rfl | hj
      · rw [hdst] at hjd; exact absurd hjd e
      · have := (I.exe y v ⟨j, hj, hjd⟩ hv').mono hle
        cases hd : t.o.dst with
        | none => exact this
        | some d => rw [getD_put_ne _ _ _ _ (fun h => e (by rw [hd, h]))]; exact this
  · have e : t.o.dst ≠ some y := fun h => hy t.i (by rw [getD_set_iff hi]; exact .inl rfl) (hdst.trans h)
    have := (I.old y v (fun j hj => hy j (by rw [getD_set_iff hi]; exact .inr hj)) hv').mono hle
    cases hd : t.o.dst with
    | none => exact this
    | some d => rw [getD_put_ne _ _ _ _ (fun h => e (by rw [hd, h]))]; exact this
  · obtain ⟨hu1, hu2⟩ := List.mem_filter.1 hu
    have hne : u.i ≠ t.i := by simpa using hu2
    have U := I.itm u hu1
    refine ⟨U.mem, U.op, U.val, U.lk, U.slots, U.guard, U.noguard, U.skv, fun h1 h2 => ?_, U.nal, U.edg, U.fre⟩
    obtain ⟨α, B, f, q1, q2, q3, q4, q5, q6⟩ := U.alc h1 h2
    exact ⟨α, B, f, q1, q2, q3, hfresh u hu1 hne α B q1 q4, q5, q6⟩

theorem Ext.placed {α : Nat} {ob : Obj} {l : Pl} (e : Ext ρ0 M0 w0 ρ M w) (hn : ρ α = none) (hl : l.b = w.heap.size) (hα : M0.next ≤ α) : Ext ρ0 M0 w0 (ρ.upd α l) M (w.alloc ob) := by
  have hle := Loc.le_upd ρ α l hn
  refine ⟨Loc.le_trans e.sub hle, e.next, by have := e.size; simp; omega, e.os, e.tape, e.output, e.muts, fun β k h1 h2 => ?_, fun b hb hm => ?_⟩
  · by_cases q : β = α
    · subst q; rw [Loc.upd_same] at h2; cases h2; exact ⟨hα, .inl (by have := e.size; omega)⟩
    · rw [Loc.upd_ne ρ l q] at h2; exact e.fresh β k h1 h2
  · rw [← e.keep b hb hm]
    exact heap_alloc_lt w ob b (Nat.lt_of_lt_of_le hb e.size)

theorem sureO_some {α : Type} {b : Bool} {x : Option α} {k : α → Option β} (h : sureO b x k = some r) : ∃ a, x = some a ∧ k a = some r := by
  unfold sureO at h
  split at h
  · exact bindO_some h
  · exact bindO_some h

/-- what was done at this very memory -/
def NowOk (P : Program) (M : AMem) (t : LateA) : Prop := (∀ α b, t.al = some (α, b) → M.get α = some b) ∧ (t.al = none → isAlloc t.o = false → opK P t.fr M t.o (fun v _ => some v) (fun _ _ => none) = some t.v)

/-- a pending item, carried out now -/
theorem DInv.exec (I : DInv P ops nt fr0 ρ0 M0 w0 a0 done L fr M listed a ρ w) (hg : GlobR P ρ) {t : LateA} (ht : t ∈ L) (hr : ∀ e ∈ t.o.after, Region.binds .any e = true → listed.getD e.on false = true)
    (hlate : t.sk = false → (∀ α b, t.al = some (α, b) → M.get α = some b) ∧ (t.al = none → freeA P t.fr t.o = true ∨ opK P t.fr M t.o (fun v' _ => needB (beqA 9 t.v v') (some ())) (fun _ _ => none) = some () ∨ (isAlloc t.o = false → opK P t.fr M t.o (fun v _ => some v) (fun _ _ => none) = some t.v)))
    {Q : Exit → Act → World → Prop} {K : Act → World → Prop}
    (hk : ∀ a' ρ' w', DInv P ops nt fr0 ρ0 M0 w0 a0 done (L.filter fun u => !(u.i == t.i)) fr M (listed.setIfInBounds t.i true) a' ρ' w' → K a' w') : wpOp P ops Q t.i K a w := by
  have T := I.itm t ht
  have hf := I.frame ht hr
  unfold wpOp
  rw [T.op]
  simp only
  have hsk : Region.wanted t.o (yielded ops a.tmps) = !t.sk := by
    unfold Region.wanted
    cases hgd : t.o.guard with
    | none => simp [T.noguard hgd]
    | some jb =>
      obtain ⟨j, b⟩ := jb
      obtain ⟨d, hd, h⟩ := T.guard j b hgd
      rcases h with ⟨c, hc, hs⟩ | ⟨hs, l, hl⟩
      · simp only [yielded_bool hd hf hc, hs]
        cases c <;> cases b <;> rfl
      · simp only [yielded_tup hd hf hl, hs]; rfl
  cases hs : t.sk with
  | true =>
    rw [if_neg (by rw [hsk, hs]; simp)]
    refine hk _ _ _ (I.took ht hr (Loc.le_refl ρ) I.sim I.ext ?_ fun _ _ _ _ _ _ h => h)
    rw [(T.skv hs).1]; exact VR.undef ρ
  | false =>
    rw [if_pos (by rw [hsk, hs]; rfl)]
    refine .inl ?_
    obtain ⟨hl1, hl2⟩ := hlate hs
    cases ha : isAlloc t.o with
    | true =>
      obtain ⟨α, B, f, q1, q2, q3, q4, q5, q6⟩ := T.alc hs ha
      obtain ⟨ob, g, hrun, hrel⟩ := allocA_sound (P := P) (a := a) hg hf q2
      let l : Pl := ⟨w.heap.size, 0, 0, 0⟩
      obtain ⟨r1, r2⟩ := hrel (ρ.upd α l) α l w (Loc.le_upd ρ _ l q4) (Loc.upd_same ρ _ l) rfl rfl
      unfold Oper.wp
      rw [hrun w]
      refine hk _ (ρ.upd α l) _ (I.took ht hr (Loc.le_upd ρ _ l q4) (I.sim.place (hl1 α B q1) q4 rfl r2) (Ext.placed I.ext q4 rfl q5) (q3 ▸ r1) fun u hu hne β C hC hn => ?_)
      have : β ≠ α := by
        have hp := I.pw
        rw [List.pairwise_iff_forall_sublist] at hp
        intro hβ
        have hne' : u ≠ t := fun h => hne (by rw [h])
        rcases List.mem_iff_append.1 ht with ⟨s1, s2, hs12⟩
        rw [hs12] at hu
        rcases List.mem_append.1 hu with hu | hu
        · have := (hp (a := u) (b := t) (by rw [hs12]; exact (List.singleton_sublist.2 hu).append ((List.Sublist.refl [t]).trans (List.singleton_sublist.2 (List.mem_cons_self ..))))).2.2 β C α B hC q1
          exact this hβ
        · rcases List.mem_cons.1 hu with h | hu
          · exact hne' h
          · have := (hp (a := t) (b := u) (by rw [hs12]; exact ((List.singleton_sublist.2 hu).cons_cons t).trans (List.sublist_append_right ..))).2.2 α B β C q1 hC
            exact this hβ.symm
      rw [Loc.upd_ne ρ l this]; exact hn
    | false =>
      obtain ⟨q1, q2⟩ := T.nal hs ha
      have h0 : opK P t.fr M t.o (fun v _ => some v) (fun _ _ => none) = some t.v ∨ opK P t.fr M t.o (fun v' _ => needB (beqA 9 t.v v') (some ())) (fun _ _ => none) = some () := by
        rcases hl2 q1 with h | h | h
        · exact .inl (T.fre hs ha h M)
        · exact .inr h
        · exact .inl (h ha)
      rcases h0 with hfree | hop
      · rcases opK_sound I.sim hg hf hfree with ⟨v, M', h1, ⟨ρ', w', n, x, hrun, hn, hv, s', e'⟩, hM⟩ | ⟨f, args, h1, _⟩
        · obtain rfl : t.v = v := (Option.some.inj h1).symm
          obtain rfl := hM q2 ha
          unfold Oper.wp
          rw [hrun]
          have fin := I.took ht hr e'.sub s' (Ext.trans I.ext e') hv fun u hu hne β C hC hn => by
            cases hq : ρ' β with
            | none => rfl
            | some l =>
              have := (e'.fresh β l hn hq).1
              have U := I.itm u hu
              exfalso
              cases hus : u.sk with
              | true => rw [(U.skv hus).2] at hC; cases hC
              | false =>
                cases hua : isAlloc u.o with
                | true =>
                  obtain ⟨α, B, f, p1, p2, p3, p4, p5, p6⟩ := U.alc hus hua
                  rw [hC] at p1; cases p1; omega
                | false => rw [(U.nal hus hua).1] at hC; cases hC
          rcases hn with rfl | ⟨rfl, rfl⟩
          · exact hk _ _ _ fin
          · exact hk _ _ _ fin
        · cases h1
      · rcases opK_sound I.sim hg hf hop with ⟨v, M', h1, ⟨ρ', w', n, x, hrun, hn, hv, s', e'⟩, hM⟩ | ⟨f, args, h1, _⟩
        · obtain rfl := beqA_eq 9 _ _ (needB_some h1).1
          obtain rfl := hM q2 ha
          unfold Oper.wp
          rw [hrun]
          have fin := I.took ht hr e'.sub s' (Ext.trans I.ext e') hv fun u hu hne β C hC hn => by
            cases hq : ρ' β with
            | none => rfl
            | some l =>
              have := (e'.fresh β l hn hq).1
              have U := I.itm u hu
              exfalso
              cases hus : u.sk with
              | true => rw [(U.skv hus).2] at hC; cases hC
              | false =>
                cases hua : isAlloc u.o with
                | true =>
                  obtain ⟨α, B, f, p1, p2, p3, p4, p5, p6⟩ := U.alc hus hua
                  rw [hC] at p1; cases p1; omega
                | false => rw [(U.nal hus hua).1] at hC; cases hC
          rcases hn with rfl | ⟨rfl, rfl⟩
          · exact hk _ _ _ fin
          · exact hk _ _ _ fin
        · cases h1

/-- what the order's check says of its next operation -/
structure Head (ops : Array Oper) (done : List Nat) (i : Nat) (o : Oper) : Prop where
  op : ops[i]? = some o
  new : i ∉ done
  edg : ∀ e ∈ o.after, Region.binds .any e = true → e.on ∈ done
  apart : ∀ j ∈ done, j ∈ ancA ops ops.size i ∨ ∀ p, ops[j]? = some p → (∀ d, p.dst = some d → d ∉ looksA ops o) ∧ (∀ d, o.dst = some d → d ∉ looksA ops p)
  dst : ∀ d, o.dst = some d → ∀ j ∈ done, guardDst ops j ≠ some d

theorem orderOk_cons {i : Nat} {rest : List Nat} {last : Option Nat} (h : orderOk P ops (i :: rest) done last = true) :
    ∃ o, Head ops done i o ∧ (∀ e, last = some e → e ∈ ancA ops ops.size i) ∧ orderOk P ops rest (i :: done) (if isEff P o then some i else last) = true := by
  unfold orderOk at h
  split at h
  · cases h
  · rename_i o ho
    simp only [Bool.and_eq_true] at h
    obtain ⟨⟨⟨⟨⟨h1, h2⟩, h3⟩, h4⟩, h5⟩, h6⟩ := h
    refine ⟨o, ⟨ho, by simpa using h1, fun e he hb => ?_, fun j hj => ?_, fun d hd j hj => ?_⟩, fun e he => ?_, h6⟩
    · unfold edgesIn at h2
      have := Array.all_eq_true_iff_forall_mem.1 h2 e he
      simp only [hb, Bool.not_true, Bool.false_or, List.contains_iff_mem] at this
      exact this
    · have := List.all_eq_true.1 h3 j hj
      rw [Bool.or_eq_true] at this
      rcases this with h | h
      · exact .inl (by simpa using h)
      · refine .inr fun p hp => ?_
        rw [hp] at h
        simp only [Bool.and_eq_true] at h
        refine ⟨fun d hd => ?_, fun d hd => ?_⟩
        · have := h.1.1; rw [hd] at this; simpa using this
        · have := h.1.2; rw [hd] at this; simpa using this
    · rw [hd] at h4
      have := List.all_eq_true.1 h4 j hj
      intro hh
      unfold guardDst at hh
      simp [hh] at this
    · rw [he] at h5; simpa using h5

theorem putA_get {fr' : Fr} {d : Option Tmp} {v : AV} (h : putA nt fr d v = some fr') : (∀ x, d ≠ some x → fr'.get x = fr.get x) ∧ (∀ x, d = some x → x < nt ∧ fr'.get x = some v) := by
  cases d with
  | none => simp only [putA, Option.some.injEq] at h; subst h; exact ⟨fun _ _ => rfl, fun x h => by cases h⟩
  | some d =>
    simp only [putA] at h
    split at h
    · rename_i hlt
      simp only [Option.some.injEq] at h; subst h
      refine ⟨fun x hx => ?_, fun x hx => ?_⟩
      · rw [Tri.get_set, if_neg (fun e => hx (by rw [e]))]
      · cases hx; exact ⟨by simpa using hlt, by rw [Tri.get_set, if_pos rfl]⟩
    · cases h

/-- the items that are pending, behind one more operation of the order -/
theorem ItemOk.behind {n0 nx nx' : Nat} {ρ' : Loc} {u : LateA} (U : ItemOk P ops nt fr0 n0 done fr nx ρ u) {i : Nat} {o : Oper} (H : Head ops done i o) {fr' : Fr} {v : AV} (hp : putA nt fr o.dst v = some fr')
    (hn : nx ≤ nx') (hρ : ∀ α, α < nx → ρ α = none → ρ' α = none) : ItemOk P ops nt fr0 n0 (i :: done) fr' nx' ρ' u := by
  obtain ⟨p1, p2⟩ := putA_get hp
  have hdst : guardDst ops i = o.dst := by simp [guardDst, H.op]
  have same : ∀ x j, j ∈ done → guardDst ops j = some x → fr'.get x = fr.get x := fun x j hj hd => p1 x fun h => H.dst x h j hj hd
  refine ⟨List.mem_cons_of_mem _ U.mem, U.op, fun d hd => ?_, U.lk, fun x y hx => ?_, U.guard, U.noguard, U.skv, fun h1 h2 => ?_, U.nal, fun e he hb => ⟨List.mem_cons_of_mem _ (U.edg e he hb).1, (U.edg e he hb).2⟩, U.fre⟩
  · rw [same d u.i U.mem (by simp [guardDst, U.op, hd])]; exact U.val d hd
  · rcases U.slots x y hx with ⟨j, h1, h2, h3, h4⟩ | ⟨h1, h2⟩
    · exact .inl ⟨j, h1, h2, List.mem_cons_of_mem _ h3, by rw [same x j h3 h2]; exact h4⟩
    · refine .inr ⟨h1, fun j hj hd => ?_⟩
      rcases List.mem_cons.1 hj with rfl | hj
      · rcases H.apart u.i U.mem with h | h
        · exact .inl h
        · exact absurd (U.lk x y hx) ((h u.o U.op).2 x (hdst ▸ hd))
      · exact h2 j hj hd
  · obtain ⟨α, B, f, q1, q2, q3, q4, q5, q6⟩ := U.alc h1 h2
    exact ⟨α, B, f, q1, q2, q3, hρ α q6 q4, q5, by omega⟩

theorem DInv.push (I : DInv P ops nt fr0 ρ0 M0 w0 a0 done L fr M listed a ρ w) {i : Nat} {o : Oper} (H : Head ops done i o) {fr' : Fr} {t : LateA} {M' : AMem} (hp : putA nt fr o.dst t.v = some fr')
    (s' : Sim ρ M' w) (e' : Ext ρ0 M0 w0 ρ M' w) (hn : M.next ≤ M'.next) (hti : t.i = i) (hto : t.o = o) (htf : t.fr = keepFrom fr (looksA ops o) .nil)
    (hgd : ∀ j b, t.o.guard = some (j, b) → ∃ d, guardDst ops j = some d ∧ ((∃ c, t.fr.get d = some (.bool c) ∧ (t.sk = !(c == b))) ∨ (t.sk = true ∧ ∃ l, t.fr.get d = some (.tup l))))
    (hng : t.o.guard = none → t.sk = false) (hskv : t.sk = true → t.v = undefA ∧ t.al = none)
    (halc : t.sk = false → isAlloc t.o = true → ∃ α B f, t.al = some (α, B) ∧ allocA P t.fr t.o = some (B, f) ∧ t.v = f α ∧ ρ α = none ∧ M.next ≤ α ∧ α < M'.next)
    (hnal : t.sk = false → isAlloc t.o = false → t.al = none ∧ isEff P t.o = false)
    (hfre : t.sk = false → isAlloc t.o = false → freeA P t.fr t.o = true → ∀ M, opK P t.fr M t.o (fun v _ => some v) (fun _ _ => none) = some t.v) :
    DInv P ops nt fr0 ρ0 M0 w0 a0 (i :: done) (t :: L) fr' M' listed a ρ w := by
  subst hti hto
  obtain ⟨p1, p2⟩ := putA_get hp
  have hdst : guardDst ops t.i = t.o.dst := by simp [guardDst, H.op]
  have same : ∀ x j, j ∈ done → guardDst ops j = some x → fr'.get x = fr.get x := fun x j hj hd => p1 x fun h => H.dst x h j hj hd
  refine ⟨s', e', I.size, I.defs, I.lsz, fun j => ?_, I.clo, fun x v hx hv => ?_, I.old, fun x hx => ?_, fun j hj k hk x h1 h2 => ?_, fun u hu => ?_, ?_, fun j hj => ?_⟩
  · rw [I.lst j]
    constructor
    · rintro ⟨h1, h2⟩
      refine ⟨List.mem_cons_of_mem _ h1, fun u hu => ?_⟩
      rcases List.mem_cons.1 hu with rfl | hu
      · intro h; exact H.new (h ▸ h1)
      · exact h2 u hu
    · rintro ⟨h1, h2⟩
      rcases List.mem_cons.1 h1 with rfl | h1
      · exact absurd rfl (h2 t (List.mem_cons_self ..))
      · exact ⟨h1, fun u hu => h2 u (List.mem_cons_of_mem _ hu)⟩
  · obtain ⟨j, hj, hd⟩ := hx
    rw [same x j ((I.lst j).1 hj).1 hd] at hv
    exact I.exe x v ⟨j, hj, hd⟩ hv
  · rw [p1 x (fun h => hx t.i (List.mem_cons_self ..) (hdst.trans h))]
    exact I.frs x fun j hj => hx j (List.mem_cons_of_mem _ hj)
  · rcases List.mem_cons.1 hj with rfl | hj
    · rcases List.mem_cons.1 hk with rfl | hk
      · rfl
      · exact absurd h2 (H.dst x (hdst ▸ h1) k hk)
    · rcases List.mem_cons.1 hk with rfl | hk
      · exact absurd h1 (H.dst x (hdst ▸ h2) j hj)
      · exact I.uni j hj k hk x h1 h2
  · rcases List.mem_cons.1 hu with rfl | hu
    · refine ⟨List.mem_cons_self .., H.op, fun d hd => p2 d hd, fun x v hx => ?_, fun x v hx => ?_, hgd, hng, hskv, fun h1 h2 => ?_, hnal, fun e he hb => ?_, hfre⟩
      · rw [htf] at hx
        rcases keepFrom_get _ _ hx with ⟨h, _⟩ | h
        · exact h
        · rw [Tri.get_nil] at h; cases h
      · rw [htf] at hx
        rcases keepFrom_get _ _ hx with ⟨h1, h2⟩ | h
        · by_cases q : ∃ j ∈ done, guardDst ops j = some x
          · obtain ⟨j, hj, hd⟩ := q
            rcases H.apart j hj with h | h
            · exact .inl ⟨j, h, hd, List.mem_cons_of_mem _ hj, by rw [same x j hj hd]; exact h2⟩
            · unfold guardDst at hd
              cases ho : ops[j]? with
              | none => rw [ho] at hd; cases hd
              | some p => rw [ho] at hd; exact absurd h1 ((h p ho).1 x hd)
          · have q' : ∀ j ∈ done, guardDst ops j ≠ some x := fun j hj hd => q ⟨j, hj, hd⟩
            refine .inr ⟨by rw [← I.frs x q']; exact h2, fun j hj hd => ?_⟩
            rcases List.mem_cons.1 hj with rfl | hj
            · exact .inr rfl
            · exact absurd hd (q' j hj)
        · rw [Tri.get_nil] at h; cases h
      · obtain ⟨α, B, f, q1, q2, q3, q4, q5, q6⟩ := halc h1 h2
        exact ⟨α, B, f, q1, q2, q3, q4, Nat.le_trans I.ext.next q5, q6⟩
      · have := H.edg e he hb
        exact ⟨List.mem_cons_of_mem _ this, fun h => H.new (h ▸ this)⟩
    · exact (I.itm u hu).behind H hp hn fun _ _ h => h
  · refine List.pairwise_cons.2 ⟨fun u hu => ?_, I.pw⟩
    have U := I.itm u hu
    refine ⟨fun h => H.new (h ▸ U.mem), fun e he hb h => H.new (h ▸ (U.edg e he hb).1), fun α B β C h1 h2 => ?_⟩
    have h3 : β < M.next := by
      cases hus : u.sk with
      | true => rw [(U.skv hus).2] at h2; cases h2
      | false =>
        cases hua : isAlloc u.o with
        | true => obtain ⟨γ, D, f, q1, q2, q3, q4, q5, q6⟩ := U.alc hus hua; rw [h2] at q1; cases q1; exact q6
        | false => rw [(U.nal hus hua).1] at h2; cases h2
    have h4 : M.next ≤ α := by
      cases hus : t.sk with
      | true => rw [(hskv hus).2] at h1; cases h1
      | false =>
        cases hua : isAlloc t.o with
        | true => obtain ⟨γ, D, f, q1, q2, q3, q4, q5, q6⟩ := halc hus hua; rw [h1] at q1; cases q1; exact q5
        | false => rw [(hnal hus hua).1] at h1; cases h1
    omega
  · rcases List.mem_cons.1 hj with rfl | hj
    · exact (Array.getElem?_eq_some_iff.1 H.op).1
    · exact I.dlt j hj

/-- an effect sees what the evaluation saw -/
theorem DInv.frameEff (I : DInv P ops nt fr0 ρ0 M0 w0 a0 done L fr M listed a ρ w) {i : Nat} {o : Oper} (H : Head ops done i o) (hr : ∀ e ∈ o.after, Region.binds .any e = true → listed.getD e.on false = true) :
    FrR ρ nt (keepFrom fr (looksA ops o) .nil) a.tmps := by
  have hanc := anc_listed I.clo ops.size i (fun o' ho => by rw [H.op] at ho; cases ho; exact hr)
  refine ⟨I.size, fun x v hx => ?_⟩
  rcases keepFrom_get _ _ hx with ⟨h1, h2⟩ | h
  · by_cases q : ∃ j ∈ done, guardDst ops j = some x
    · obtain ⟨j, hj, hd⟩ := q
      rcases H.apart j hj with h | h
      · exact I.exe x v ⟨j, hanc j h, hd⟩ h2
      · unfold guardDst at hd
        cases ho : ops[j]? with
        | none => rw [ho] at hd; cases hd
        | some p => rw [ho] at hd; exact absurd h1 ((h p ho).1 x hd)
    · have q' : ∀ j ∈ done, guardDst ops j ≠ some x := fun j hj hd => q ⟨j, hj, hd⟩
      refine I.old x v (fun j hj => q' j ((I.lst j).1 hj).1) ?_
      rw [← I.frs x q']; exact h2
  · rw [Tri.get_nil] at h; cases h

theorem DInv.eff (I : DInv P ops nt fr0 ρ0 M0 w0 a0 done L fr M listed a ρ w) {i : Nat} {o : Oper} (H : Head ops done i o) (hr : ∀ e ∈ o.after, Region.binds .any e = true → listed.getD e.on false = true)
    {v : AV} {x : Value} {M' : AMem} {ρ' : Loc} {w' : World} {fr' : Fr} (hp : putA nt fr o.dst v = some fr') (hv : VR ρ' v x) (s' : Sim ρ' M' w') (e' : Ext ρ M w ρ' M' w') :
    DInv P ops nt fr0 ρ0 M0 w0 a0 (i :: done) L fr' M' (listed.setIfInBounds i true) (a.put o.dst x) ρ' w' := by
  obtain ⟨p1, p2⟩ := putA_get hp
  have hdst : guardDst ops i = o.dst := by simp [guardDst, H.op]
  have hlt : i < ops.size := (Array.getElem?_eq_some_iff.1 H.op).1
  have hi : i < listed.size := by rw [I.lsz]; exact hlt
  have same : ∀ y j, j ∈ done → guardDst ops j = some y → fr'.get y = fr.get y := fun y j hj hd => p1 y fun h => H.dst y h j hj hd
  refine ⟨s', Ext.trans I.ext e', ?_, (put_defers ..).trans I.defs, by simp [I.lsz], fun j => ?_, fun j o' ho hj e he hb => ?_, fun y u hy hu => ?_, fun y u hy hu => ?_, fun y hy => ?_, fun j hj k hk y h1 h2 => ?_, fun u hu => ?_, I.pw, fun j hj => ?_⟩
  · cases hd : o.dst <;> simp [Act.put, I.size]
  · rw [getD_set_iff hi, I.lst j]
    constructor
    · rintro (rfl | ⟨h1, h2⟩)
      · exact ⟨List.mem_cons_self .., fun u hu h => H.new (h ▸ (I.itm u hu).mem)⟩
      · exact ⟨List.mem_cons_of_mem _ h1, h2⟩
    · rintro ⟨h1, h2⟩
      rcases List.mem_cons.1 h1 with rfl | h1
      · exact .inl rfl
      · exact .inr ⟨h1, h2⟩
  · rw [getD_set_iff hi] at hj ⊢
    rcases hj with rfl | hj
    · rw [H.op] at ho; cases ho; exact .inr (hr e he hb)
    · exact .inr (I.clo j o' ho hj e he hb)
  · obtain ⟨j, hj, hjd⟩ := hy
    rw [getD_set_iff hi] at hj
    by_cases e : o.dst = some y
    · obtain ⟨h1, h2⟩ := p2 y e
      rw [h2] at hu; cases hu
      rw [e, getD_put_eq _ _ _ (by rw [I.size]; exact h1)]
      exact hv
    · rcases hj with rfl | hj
      · rw [hdst] at hjd; exact absurd hjd e
      · rw [p1 y e] at hu
        have := (I.exe y u ⟨j, hj, hjd⟩ hu).mono e'.sub
        cases hd : o.dst with
        | none => exact this
        | some d => rw [getD_put_ne _ _ _ _ (fun h => e (by rw [hd, h]))]; exact this
  · have e : o.dst ≠ some y := fun h => hy i (by rw [getD_set_iff hi]; exact .inl rfl) (hdst.trans h)
    have := (I.old y u (fun j hj => hy j (by rw [getD_set_iff hi]; exact .inr hj)) hu).mono e'.sub
    cases hd : o.dst with
    | none => exact this
    | some d => rw [getD_put_ne _ _ _ _ (fun h => e (by rw [hd, h]))]; exact this
  · rw [p1 y (fun h => hy i (List.mem_cons_self ..) (hdst.trans h))]
    exact I.frs y fun j hj => hy j (List.mem_cons_of_mem _ hj)
  · rcases List.mem_cons.1 hj with hj' | hj'
    · rcases List.mem_cons.1 hk with hk' | hk'
      · rw [hj', hk']
      · subst hj'; exact absurd h2 (H.dst y (hdst ▸ h1) k hk')
    · rcases List.mem_cons.1 hk with hk' | hk'
      · subst hk'; exact absurd h1 (H.dst y (hdst ▸ h2) j hj')
      · exact I.uni j hj' k hk' y h1 h2
  · refine (I.itm u hu).behind H hp e'.next fun α hα hn => ?_
    cases hq : ρ' α with
    | none => rfl
    | some l => have := (e'.fresh α l hn hq).1; omega
  · rcases List.mem_cons.1 hj with rfl | hj
    · exact hlt
    · exact I.dlt j hj

/-- while something is pending, something may be taken -/
theorem DInv.ready (I : DInv P ops nt fr0 ρ0 M0 w0 a0 done L fr M listed a ρ w) (hL : L ≠ []) : Region.ready .any ops listed ≠ [] := by
  obtain ⟨s, t, rfl⟩ : ∃ s t, L = s ++ [t] := by
    rcases List.eq_nil_or_concat L with h | ⟨s, t, h⟩
    · exact absurd h hL
    · exact ⟨s, t, by simpa using h⟩
  have ht : t ∈ s ++ [t] := by simp
  have T := I.itm t ht
  intro h
  have : t.i ∈ Region.ready .any ops listed := by
    rw [mem_ready]
    have hnt : listed.getD t.i false ≠ true := fun h => ((I.lst t.i).1 h).2 t ht rfl
    have hsz : t.i < listed.size := by rw [I.lsz]; exact I.dlt _ T.mem
    refine ⟨?_, t.o, T.op, fun e he hb => ?_⟩
    · simp only [Array.getD, hsz, dif_pos] at hnt ⊢
      simpa using hnt
    · rw [I.lst]
      obtain ⟨h1, h2⟩ := T.edg e he hb
      refine ⟨h1, fun u hu => ?_⟩
      rcases List.mem_append.1 hu with hu | hu
      · have := (List.pairwise_append.1 I.pw).2.2 u hu t (by simp)
        exact fun h => this.2.1 e he hb h.symm
      · simp only [List.mem_singleton] at hu; subst hu; exact fun h => h2 h.symm
  rw [h] at this; cases this

theorem ready_spec (I : DInv P ops nt fr0 ρ0 M0 w0 a0 done L fr M listed a ρ w) {j : Nat} (hj : j ∈ Region.ready .any ops listed) :
    listed.getD j false ≠ true ∧ ∃ o, ops[j]? = some o ∧ ∀ e ∈ o.after, Region.binds .any e = true → listed.getD e.on false = true := by
  obtain ⟨h1, o, ho, h2⟩ := mem_ready.1 hj
  refine ⟨?_, o, ho, h2⟩
  have hsz : j < listed.size := by rw [I.lsz]; exact (Array.getElem?_eq_some_iff.1 ho).1
  simp only [Array.getD, hsz, dif_pos] at h1 ⊢
  rw [h1]; simp


theorem filter_len {L : List LateA} {t : LateA} (hp : L.Pairwise (fun t u => t.i ≠ u.i)) (ht : t ∈ L) : (L.filter fun u => !(u.i == t.i)).length + 1 = L.length := by
  induction L with
  | nil => cases ht
  | cons u us ih =>
    obtain ⟨h1, h2⟩ := List.pairwise_cons.1 hp
    rcases List.mem_cons.1 ht with rfl | ht
    · rw [List.filter_cons_of_neg (by simp)]
      rw [List.filter_eq_self.2 fun v hv => by simpa using (h1 v hv).symm]
      rfl
    · rw [List.filter_cons_of_pos (by simpa using h1 t ht)]
      simp only [List.length_cons]
      rw [ih h2 ht]

theorem order_last : ∀ (rest done : List Nat) (e : Nat), orderOk P ops rest done (some e) = true → ∀ i ∈ rest, ∃ e1, (e1 = e ∨ e1 ∈ rest) ∧ e1 ∈ ancA ops ops.size i := by
  intro rest
  induction rest with
  | nil => intro done e _ i hi; cases hi
  | cons j rest ih =>
    intro done e h i hi
    obtain ⟨o, H, hl, hrest⟩ := orderOk_cons h
    rcases List.mem_cons.1 hi with rfl | hi
    · exact ⟨e, .inl rfl, hl e rfl⟩
    · split at hrest
      · obtain ⟨e1, h1, h2⟩ := ih _ _ hrest i hi
        rcases h1 with rfl | h1
        · exact ⟨e1, .inr (List.mem_cons_self ..), h2⟩
        · exact ⟨e1, .inr (List.mem_cons_of_mem _ h1), h2⟩
      · obtain ⟨e1, h1, h2⟩ := ih _ _ hrest i hi
        rcases h1 with rfl | h1
        · exact ⟨e1, .inl rfl, h2⟩
        · exact ⟨e1, .inr (List.mem_cons_of_mem _ h1), h2⟩

theorem order_new : ∀ (rest done : List Nat) (last : Option Nat), orderOk P ops rest done last = true → ∀ i ∈ rest, i ∉ done := by
  intro rest
  induction rest with
  | nil => intro done last _ i hi; cases hi
  | cons j rest ih =>
    intro done last h i hi
    obtain ⟨o, H, hl, hrest⟩ := orderOk_cons h
    rcases List.mem_cons.1 hi with rfl | hi
    · exact H.new
    · exact fun hd => ih _ _ hrest i hi (List.mem_cons_of_mem _ hd)

theorem order_all : ∀ (rest done : List Nat) (last : Option Nat), orderOk P ops rest done last = true → ∀ i, i < ops.size → i ∈ done ∨ i ∈ rest := by
  intro rest
  induction rest with
  | nil =>
    intro done last h i hi
    unfold orderOk at h
    have := List.all_eq_true.1 h i (List.mem_range.2 hi)
    exact .inl (by simpa using this)
  | cons j rest ih =>
    intro done last h i hi
    obtain ⟨o, H, hl, hrest⟩ := orderOk_cons h
    rcases ih _ _ hrest i hi with h | h
    · rcases List.mem_cons.1 h with rfl | h
      · exact .inr (List.mem_cons_self ..)
      · exact .inl h
    · exact .inr (List.mem_cons_of_mem _ h)

theorem DInv.pwi (I : DInv P ops nt fr0 ρ0 M0 w0 a0 done L fr M listed a ρ w) : L.Pairwise (fun t u => t.i ≠ u.i) := I.pw.imp fun h => h.1

/-- a pending item is taken, and what follows is known -/
theorem DInv.takes (I : DInv P ops nt fr0 ρ0 M0 w0 a0 done L fr M listed a ρ w) (hg : GlobR P ρ0) {tr nw : List LateA} {k : Option β} (hl : lateK P M tr k = some r) (hLt : ∀ t ∈ L, t ∈ tr ∨ t ∈ nw) (hNw : ∀ t ∈ nw, t.sk = false → NowOk P M t) {t : LateA} (ht : t ∈ L)
    (hj : t.i ∈ Region.ready .any ops listed) {Q : Exit → Act → World → Prop} {K : Act → World → Prop}
    (hk : ∀ a' ρ' w', DInv P ops nt fr0 ρ0 M0 w0 a0 done (L.filter fun u => !(u.i == t.i)) fr M (listed.setIfInBounds t.i true) a' ρ' w' → K a' w') : wpOp P ops Q t.i K a w := by
  obtain ⟨_, o, ho, hr⟩ := ready_spec I hj
  have T := I.itm t ht
  rw [T.op] at ho; cases ho
  refine I.exec (hg.mono I.ext.sub) ht hr (fun hs => ?_) hk
  rcases hLt t ht with h | h
  · obtain ⟨h1, h2⟩ := (lateK_some hl).2 t h hs
    exact ⟨h1, fun e => (h2 e).imp (fun h => h) .inl⟩
  · obtain ⟨h1, h2⟩ := hNw t h hs
    exact ⟨h1, fun e => .inr (.inr (h2 e))⟩

/-- nothing but what is pending is left -/
theorem draw_end {Q : Exit → Act → World → Prop} (hg : GlobR P ρ0) (hall : ∀ i, i < ops.size → i ∈ done) {tr nw : List LateA} {k : Fr → AMem → Option β} (hl : lateK P M tr (k fr M) = some r) (hNw : ∀ t ∈ nw, t.sk = false → NowOk P M t)
    (hk : ∀ fr' M' ρ' a' w', k fr' M' = some r → Sim ρ' M' w' → FrR ρ' nt fr' a'.tmps → Ext ρ0 M0 w0 ρ' M' w' → a'.defers = a0.defers → Q .normal a' w') :
    ∀ (n : Nat) (L : List LateA) (listed : Array Bool) (a : Act) (ρ : Loc) (w : World), DInv P ops nt fr0 ρ0 M0 w0 a0 done L fr M listed a ρ w → (∀ t ∈ L, t ∈ tr ∨ t ∈ nw) → L.length = n → wpAny P .any ops Q n listed a w := by
  intro n
  induction n with
  | zero =>
    intro L listed a ρ w I hLt hn
    obtain rfl := List.eq_nil_of_length_eq_zero hn
    have hl' : ∀ i, i < ops.size → listed.getD i false = true := fun i hi => (I.lst i).2 ⟨hall i hi, fun t ht => by cases ht⟩
    refine ⟨?_, hk fr M ρ a w (lateK_some hl).1 I.sim ⟨I.size, fun x v hx => ?_⟩ I.ext I.defs⟩
    · cases hr : Region.ready .any ops listed with
      | nil => rfl
      | cons j js =>
        have hj : j ∈ Region.ready .any ops listed := by rw [hr]; exact List.mem_cons_self ..
        obtain ⟨h1, o, ho, _⟩ := ready_spec I hj
        exact absurd (hl' j (Array.getElem?_eq_some_iff.1 ho).1) h1
    · by_cases q : ∃ j, listed.getD j false = true ∧ guardDst ops j = some x
      · exact I.exe x v q hx
      · have q' : ∀ j, listed.getD j false = true → guardDst ops j ≠ some x := fun j h1 h2 => q ⟨j, h1, h2⟩
        refine I.old x v q' ?_
        rw [← I.frs x fun j hj => q' j (hl' j (I.dlt j hj))]; exact hx
  | succ n ih =>
    intro L listed a ρ w I hLt hn
    have hne : L ≠ [] := fun h => by rw [h] at hn; cases hn
    refine ⟨fun h => absurd h (I.ready hne), fun j hj => ?_⟩
    obtain ⟨h1, o, ho, hr⟩ := ready_spec I hj
    have hjd := hall j (Array.getElem?_eq_some_iff.1 ho).1
    obtain ⟨t, ht, hti⟩ : ∃ t ∈ L, t.i = j := by
      by_cases q : ∃ t ∈ L, t.i = j
      · exact q
      · exact absurd ((I.lst j).2 ⟨hjd, fun t ht h => q ⟨t, ht, h⟩⟩) h1
    subst hti
    refine I.takes hg hl hLt hNw ht hj fun a' ρ' w' I' => ?_
    exact ih _ _ _ _ _ I' (fun u hu => hLt u (List.mem_filter.1 hu).1) (by have := filter_len I.pwi ht; omega)

theorem drawK_sound (hc : CallOk P call) {Q : Exit → Act → World → Prop} (hg : GlobR P ρ0) {k : Fr → AMem → Option β}
    (hk : ∀ fr' M' ρ' a' w', k fr' M' = some r → Sim ρ' M' w' → FrR ρ' nt fr' a'.tmps → Ext ρ0 M0 w0 ρ' M' w' → a'.defers = a0.defers → Q .normal a' w') :
    ∀ (rest : List Nat) (done : List Nat) (last : Option Nat) (fr : Fr) (M : AMem) (tr nw L : List LateA) (listed : Array Bool) (a : Act) (ρ : Loc) (w : World),
      orderOk P ops rest done last = true → drawK P call nt ops rest fr M tr nw k = some r → DInv P ops nt fr0 ρ0 M0 w0 a0 done L fr M listed a ρ w → (∀ t ∈ L, t ∈ tr ∨ t ∈ nw) → (∀ t ∈ nw, t.sk = false → NowOk P M t) →
      wpAny P .any ops Q (L.length + rest.length) listed a w := by
  intro rest
  induction rest with
  | nil =>
    intro done last fr M tr nw L listed a ρ w ho h I hLt hNw
    unfold drawK at h
    exact draw_end hg (fun i hi => (order_all _ _ _ ho i hi).resolve_right (by simp)) h hNw hk _ L listed a ρ w I hLt rfl
  | cons i rest ih =>
    intro done last fr M tr nw L listed a ρ w ho h I hLt hNw
    obtain ⟨o, H, hlast, hrest⟩ := orderOk_cons ho
    unfold drawK at h
    obtain ⟨o', ho', h⟩ := bindO_some h
    rw [H.op] at ho'; cases ho'
    have hdst : guardDst ops i = o.dst := by simp [guardDst, H.op]
    -- one that is passed over
    have skip : ∀ {j : Nat} {b : Bool} {d : Tmp}, o.guard = some (j, b) → guardDst ops j = some d → ((∃ c, fr.get d = some (.bool c) ∧ (c == b) = false) ∨ ∃ l, fr.get d = some (.tup l)) →
        passK nt i o fr (keepFrom fr (looksA ops o) .nil) M tr nw (fun fr' M' tr' nw' => drawK P call nt ops rest fr' M' tr' nw' k) = some r → wpAny P .any ops Q (L.length + (i :: rest).length) listed a w := by
      intro j b d hgd hd hcase hrun
      unfold passK at hrun
      obtain ⟨fr', hp, hrun⟩ := bindO_some hrun
      have hlook : d ∈ looksA ops o := by
        unfold guardDst at hd
        simp [looksA, hgd, hd]
      have I' := I.push (t := ⟨i, o, keepFrom fr (looksA ops o) .nil, undefA, none, true⟩) H hp I.sim I.ext (Nat.le_refl _) rfl rfl rfl
        (fun j' b' h' => by
          rw [hgd] at h'; cases h'
          refine ⟨d, hd, ?_⟩
          rcases hcase with ⟨c, h1, h2⟩ | ⟨l, h1⟩
          · exact .inl ⟨c, keepFrom_has h1 _ _ (.inl hlook), by simp [h2]⟩
          · exact .inr ⟨rfl, l, keepFrom_has h1 _ _ (.inl hlook)⟩)
        (fun h' => by rw [hgd] at h'; cases h') (fun _ => ⟨rfl, rfl⟩) (fun h' => by cases h') (fun h' => by cases h') (fun h' => by cases h')
      have := ih _ _ _ _ _ _ _ _ _ _ _ hrest hrun I' (fun u hu => by
        rcases List.mem_cons.1 hu with rfl | hu
        · exact .inr (List.mem_cons_self ..)
        · exact (hLt u hu).imp (fun h => h) (fun h => List.mem_cons_of_mem _ h)) (fun u hu hs => by
        rcases List.mem_cons.1 hu with rfl | hu
        · cases hs
        · exact hNw u hu hs)
      rw [List.length_cons] at this ⊢
      rwa [Nat.add_assoc, Nat.add_comm 1] at this
    -- one that is carried out
    have go : (∀ j b, o.guard = some (j, b) → ∃ d, guardDst ops j = some d ∧ fr.get d = some (.bool b)) →
        actK P call nt ops i o fr (keepFrom fr (looksA ops o) .nil) M tr nw (fun fr' M' tr' nw' => drawK P call nt ops rest fr' M' tr' nw' k) = some r →
        wpAny P .any ops Q (L.length + (i :: rest).length) listed a w := by
      intro hgd h
      have hguard : ∀ (t : LateA), t.o = o → t.fr = keepFrom fr (looksA ops o) .nil → t.sk = false → ∀ j b, t.o.guard = some (j, b) → ∃ d, guardDst ops j = some d ∧ ((∃ c, t.fr.get d = some (.bool c) ∧ (t.sk = !(c == b))) ∨ (t.sk = true ∧ ∃ l, t.fr.get d = some (.tup l))) := by
        intro t h1 h2 h3 j b h4
        rw [h1] at h4
        obtain ⟨d, hd, hv⟩ := hgd j b h4
        refine ⟨d, hd, .inl ⟨b, ?_, by rw [h3]; simp⟩⟩
        rw [h2]
        refine keepFrom_has hv _ _ (.inl ?_)
        unfold guardDst at hd
        simp [looksA, h4, hd]
      have next : ∀ {t : LateA} {tr' nw' : List LateA} {fr' : Fr} {M' : AMem}, DInv P ops nt fr0 ρ0 M0 w0 a0 (i :: done) (t :: L) fr' M' listed a ρ w → drawK P call nt ops rest fr' M' tr' (t :: nw') k = some r → (∀ u ∈ L, u ∈ tr' ∨ u ∈ nw') → (∀ u ∈ t :: nw', u.sk = false → NowOk P M' u) → wpAny P .any ops Q (L.length + (i :: rest).length) listed a w := by
        intro t tr' nw' fr' M' I' hrun hL' hN'
        have := ih _ _ _ _ _ _ _ _ _ _ _ hrest hrun I' (fun u hu => by
          rcases List.mem_cons.1 hu with rfl | hu
          · exact .inr (List.mem_cons_self ..)
          · exact (hL' u hu).imp (fun h => h) (fun h => List.mem_cons_of_mem _ h)) hN'
        rw [List.length_cons] at this ⊢
        rwa [Nat.add_assoc, Nat.add_comm 1] at this
      unfold actK at h
      split at h
      · rename_i he
        -- an effect: what is pending may come ahead of it
        rw [if_pos he] at hrest
        have hnew := order_new _ _ _ hrest
        have hlst := order_last _ _ _ hrest
        have hdo := (lateK_some h).1
        have inner : ∀ (n : Nat) (L : List LateA) (listed : Array Bool) (a : Act) (ρ : Loc) (w : World), DInv P ops nt fr0 ρ0 M0 w0 a0 done L fr M listed a ρ w → (∀ t ∈ L, t ∈ tr ∨ t ∈ nw) → L.length = n →
            wpAny P .any ops Q (L.length + (i :: rest).length) listed a w := by
          have hsucc : ∀ L : List LateA, L.length + (i :: rest).length = (L.length + rest.length) + 1 := fun L => by rw [List.length_cons]; omega
          have step : ∀ (L : List LateA) (listed : Array Bool) (a : Act) (ρ : Loc) (w : World), DInv P ops nt fr0 ρ0 M0 w0 a0 done L fr M listed a ρ w → (∀ t ∈ L, t ∈ tr ∨ t ∈ nw) →
              (∀ t ∈ L, ∀ a' ρ' w', DInv P ops nt fr0 ρ0 M0 w0 a0 done (L.filter fun u => !(u.i == t.i)) fr M (listed.setIfInBounds t.i true) a' ρ' w' → wpAny P .any ops Q (L.length + rest.length) (listed.setIfInBounds t.i true) a' w') →
              wpAny P .any ops Q (L.length + (i :: rest).length) listed a w := by
            intro L listed a ρ w I hLt hnext
            rw [hsucc L]
            have hni : listed.getD i false ≠ true := fun h' => H.new ((I.lst i).1 h').1
            have hisz : i < ops.size := (Array.getElem?_eq_some_iff.1 H.op).1
            refine ⟨fun h' => ?_, fun j hj => ?_⟩
            · exfalso
              by_cases hL : L = []
              · subst hL
                have : i ∈ Region.ready .any ops listed := by
                  rw [mem_ready]
                  have hsz : i < listed.size := by rw [I.lsz]; exact hisz
                  refine ⟨?_, o, H.op, fun e he' hb => (I.lst e.on).2 ⟨H.edg e he' hb, fun t ht => by cases ht⟩⟩
                  simp only [Array.getD, hsz, dif_pos] at hni ⊢
                  simpa using hni
                rw [h'] at this; cases this
              · exact I.ready hL h'
            · obtain ⟨hnl, oj, hoj, hr⟩ := ready_spec I hj
              have hanc := anc_listed I.clo ops.size j (fun o' ho' => by rw [hoj] at ho'; cases ho'; exact hr)
              rcases order_all _ _ _ ho j (Array.getElem?_eq_some_iff.1 hoj).1 with hd | hd
              · obtain ⟨t, ht, hti⟩ : ∃ t ∈ L, t.i = j := by
                  by_cases q : ∃ t ∈ L, t.i = j
                  · exact q
                  · exact absurd ((I.lst j).2 ⟨hd, fun t ht h => q ⟨t, ht, h⟩⟩) hnl
                subst hti
                exact I.takes hg h hLt hNw ht hj fun a' ρ' w' I' => hnext t ht a' ρ' w' I'
              · rcases List.mem_cons.1 hd with rfl | hd
                · rw [H.op] at hoj; cases hoj
                  have hf := I.frameEff H hr
                  unfold wpOp
                  rw [H.op]
                  simp only
                  rw [if_pos]
                  · refine .inl (doK_sound hc I.sim (hg.mono I.ext.sub) hf hdo fun v M' ρ' x w' h1 hv s' e' => ?_)
                    obtain ⟨fr', hp, h2⟩ := bindO_some h1
                    exact ih _ _ _ _ _ _ _ _ _ _ _ hrest h2 (I.eff H hr hp hv s' e') (fun t ht => .inl (List.mem_filter.2 ⟨List.mem_append.2 (hLt t ht).symm, by
                      have : t.i ∉ ancA ops ops.size j := fun h' => ((I.lst t.i).1 (hanc t.i h')).2 t ht rfl
                      simpa using this⟩)) (fun t ht => by cases ht)
                  · unfold Region.wanted
                    cases hgo : o.guard with
                    | none => rfl
                    | some jb =>
                      obtain ⟨jj, b⟩ := jb
                      obtain ⟨d, hd, hv⟩ := hgd jj b hgo
                      have hv' : (keepFrom fr (looksA ops o) .nil).get d = some (.bool b) := by
                        refine keepFrom_has hv _ _ (.inl ?_)
                        unfold guardDst at hd
                        simp [looksA, hgo, hd]
                      simp [yielded_bool hd hf hv']
                · exfalso
                  obtain ⟨e1, h1, h2⟩ := hlst j hd
                  have h3 := ((I.lst e1).1 (hanc e1 h2)).1
                  rcases h1 with rfl | h1
                  · exact H.new h3
                  · exact hnew e1 h1 (List.mem_cons_of_mem _ h3)
          intro n
          induction n with
          | zero =>
            intro L listed a ρ w I hLt hn
            obtain rfl := List.eq_nil_of_length_eq_zero hn
            exact step [] listed a ρ w I hLt fun t ht => by cases ht
          | succ n ihn =>
            intro L listed a ρ w I hLt hn
            refine step L listed a ρ w I hLt fun t ht a' ρ' w' I' => ?_
            have hlen := filter_len I.pwi ht
            have := ihn _ _ _ _ _ I' (fun u hu => hLt u (List.mem_filter.1 hu).1) (by omega)
            rw [hsucc] at this
            have e : (L.filter fun u => !(u.i == t.i)).length + rest.length + 1 = L.length + rest.length := by omega
            rw [e] at this
            exact this
        exact inner _ L listed a ρ w I hLt rfl
      · rename_i he ha
        obtain ⟨⟨B, f⟩, h1, h⟩ := bindO_some h
        obtain ⟨fr', hp, h⟩ := bindO_some h
        refine next (I.push (t := ⟨i, o, keepFrom fr (looksA ops o) .nil, f M.next, some (M.next, B), false⟩) H hp (I.sim.more B) (Ext.trans I.ext (Ext.more I.sim B)) (Nat.le_succ _) rfl rfl rfl (hguard _ rfl rfl rfl) (fun _ => rfl) (fun h' => by cases h')
          (fun _ _ => ⟨M.next, B, f, rfl, h1, rfl, I.sim.none_next, Nat.le_refl _, Nat.lt_succ_self _⟩) (fun _ h' => ?_) (fun _ h' => ?_)) h (fun u hu => ?_) (fun u hu hs => ?_)
        · rw [ha] at h'; cases h'
        · rw [ha] at h'; cases h'
        · rcases hLt u hu with hu | hu
          · exact .inl (List.mem_append_right _ hu)
          · cases hal : u.al with
            | none => exact .inl (List.mem_append_left _ (List.mem_filter.2 ⟨hu, by rw [hal]; rfl⟩))
            | some _ => exact .inr (List.mem_filter.2 ⟨hu, by rw [hal]; rfl⟩)
        · rcases List.mem_cons.1 hu with rfl | hu
          · refine ⟨fun α b e => ?_, fun e => by cases e⟩
            cases e
            rw [AMem.get_new, if_pos rfl]
          · obtain ⟨hu1, hu2⟩ := List.mem_filter.1 hu
            obtain ⟨q1, _⟩ := hNw u hu1 hs
            refine ⟨fun α b e => ?_, fun e => by rw [e] at hu2; cases hu2⟩
            have q3 := q1 α b e
            rw [AMem.get_new, if_neg (Nat.ne_of_lt (I.sim.lt q3))]
            exact q3
      · rename_i he ha
        obtain ⟨v, h1, h⟩ := sureO_some h
        obtain ⟨fr', hp, h⟩ := bindO_some (shQ_some h)
        exact next (I.push (t := ⟨i, o, keepFrom fr (looksA ops o) .nil, v, none, false⟩) H hp I.sim I.ext (Nat.le_refl _) rfl rfl rfl (hguard _ rfl rfl rfl) (fun _ => rfl) (fun h' => by cases h')
          (fun _ h' => by rw [ha] at h'; cases h') (fun _ _ => ⟨rfl, he⟩) (fun _ _ hfree M' => (freeA_same hfree M' M).trans h1)) h hLt (fun u hu hs => by
          rcases List.mem_cons.1 hu with rfl | hu
          · exact ⟨fun α b e => (by cases e), fun _ _ => h1⟩
          · exact hNw u hu hs)
    unfold stepK at h
    split at h
    · rename_i hgd
      exact go (fun j b h' => by rw [hgd] at h'; cases h') h
    · rename_i j want hgd
      split at h
      · cases h
      · rename_i d hd
        split at h
        · rename_i b hb
          replace h : (match (b == want) with
            | true => actK P call nt ops i o fr (keepFrom fr (looksA ops o) .nil) M tr nw (fun fr' M' tr' nw' => drawK P call nt ops rest fr' M' tr' nw' k)
            | false => passK nt i o fr (keepFrom fr (looksA ops o) .nil) M tr nw (fun fr' M' tr' nw' => drawK P call nt ops rest fr' M' tr' nw' k)) = some r := by
            cases b with
            | true => rw [ifB, Tri.set_self hb] at h; exact h
            | false => rw [ifB, Tri.set_self hb] at h; exact h
          split at h
          · rename_i hbw
            have hbw' : b = want := by simpa using hbw
            subst hbw'
            exact go (fun j' b' h' => by rw [hgd] at h'; cases h'; exact ⟨d, hd, hb⟩) h
          · rename_i hbw
            exact skip hgd hd (.inl ⟨b, hb, hbw⟩) h
        · rename_i l hb
          exact skip hgd hd (.inr ⟨l, hb⟩) h
        · cases h

theorem region_draw_sound (hm : P.follows .mixedOrders = true) (hc : CallOk P call) {Q : Exit → Act → World → Prop} {id : Nat} {a : Act} {k : Fr → AMem → Option β} (s : Sim ρ M w) (hg : GlobR P ρ) (hf : FrR ρ nt fr a.tmps)
    (h : regionK P call nt ops true fr M k = some r)
    (hk : ∀ fr' M' ρ' a' w', k fr' M' = some r → Sim ρ' M' w' → FrR ρ' nt fr' a'.tmps → Ext ρ M w ρ' M' w' → a'.defers = a.defers → Q .normal a' w') :
    (Code.region id ops true).wp P Q a w := by
  unfold regionK at h
  obtain ⟨ho, h⟩ := sureB_some h
  apply wp_region_any hm
  have hno : ∀ i, (Array.replicate ops.size false).getD i false = true → False := fun i hi => by
    simp [Array.getD] at hi
  have I : DInv P ops nt fr ρ M w a [] [] fr M (Array.replicate ops.size false) a ρ { w with drawn := w.drawn + 1 } := by
    refine ⟨s.drew _, Ext.drew _, hf.size, rfl, by simp, fun i => ⟨fun h => (hno i h).elim, fun h => by cases h.1⟩, fun j o _ hj => (hno j hj).elim, fun x v hx => ?_, fun x v _ hx => hf.val x v hx, fun _ _ => rfl, fun i hi => (by cases hi), fun t ht => (by cases ht), List.Pairwise.nil, fun i hi => (by cases hi)⟩
    obtain ⟨j, hj, _⟩ := hx
    exact (hno j hj).elim
  rw [Bool.and_eq_true] at ho
  have hsz : wpAny P .any ops Q (([] : List LateA).length + (eagerA P ops ops.size []).length) (Array.replicate ops.size false) a { w with drawn := w.drawn + 1 } :=
    drawK_sound hc hg hk _ _ _ _ _ _ _ _ _ _ _ _ ho.2 h I (fun t ht => by cases ht) (fun t ht => by cases ht)
  rw [List.length_nil, Nat.zero_add, Nat.eq_of_beq_eq_true ho.1] at hsz
  exact hsz
end
end Go.Ab
