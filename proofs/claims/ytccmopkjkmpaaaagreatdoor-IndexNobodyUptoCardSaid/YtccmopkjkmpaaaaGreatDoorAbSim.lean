/-
  The simulation between the abstract memory and the model's world: values, blocks, frames; what is kept.
-/
import Derived.Test.YtccmopkjkmpaaaaGreatDoorAbEval
import Derived.Laws.Sem
import Derived.Laws.World
import Derived.Laws.Rows
import Derived.Calls
import Derived.Below
namespace Go.Ab

/-! ### the trie -/
section tri
variable {α : Type}
theorem Tri.get_nil (k : Nat) : (Tri.nil : Tri α).get k = none := by unfold Tri.get; rfl
theorem Tri.get_zero (v : Option α) (l r : Tri α) : (Tri.node v l r).get 0 = v := rfl
theorem Tri.get_succ (v : Option α) (l r : Tri α) (k : Nat) : (Tri.node v l r).get (k + 1) = if Nat.beq (Nat.mod k 2) 0 then l.get (Nat.div k 2) else r.get (Nat.div k 2) := rfl

theorem Tri.get_put (x : Option α) : ∀ (n : Nat) (t : Tri α) (k j : Nat), k < n → (Tri.put x n t k).get j = if j = k then x else t.get j := by
  intro n
  induction n with
  | zero => intro t k j h; exact absurd h (Nat.not_lt_zero _)
  | succ n ih =>
    intro t k j h
    have hdiv : ∀ m : Nat, m / 2 < n ∨ n = 0 ∨ n ≤ m := fun m => by omega
    cases k with
    | zero =>
      cases j with
      | zero => cases t <;> simp [Tri.put, Tri.get_zero]
      | succ j => cases t <;> simp [Tri.put, Tri.get_succ, Tri.get_nil]
    | succ k =>
      have hk : k / 2 < n := by omega
      have hpar : ∀ m : Nat, Nat.beq (Nat.mod m 2) 0 = decide (m % 2 = 0) := fun m => by
        show Nat.beq (m % 2) 0 = _
        rw [Bool.eq_iff_iff]; simp
      cases j with
      | zero => cases t <;> simp only [Tri.put] <;> split <;> simp [Tri.get_zero, Tri.get_nil]
      | succ j =>
        have e1 : (j + 1 = k + 1) ↔ (j / 2 = k / 2 ∧ j % 2 = k % 2) := by omega
        cases t with
        | nil =>
          simp only [Tri.put, hpar, Tri.get_nil]
          by_cases p : k % 2 = 0
          · simp only [p, decide_true, if_true, Tri.get_succ, hpar]
            by_cases q : j % 2 = 0
            · simp only [q, decide_true, if_true]
              have := ih .nil (k / 2) (j / 2) hk
              simp only [Tri.get_nil] at this
              show (Tri.put x n .nil (k / 2)).get (j / 2) = _
              rw [this]; simp only [e1, p, q, and_true]
            · simp only [q, decide_false, Bool.false_eq_true, if_false, Tri.get_nil, e1, p]; simp
          · simp only [p, decide_false, Bool.false_eq_true, if_false, Tri.get_succ, hpar]
            by_cases q : j % 2 = 0
            · simp only [q, decide_true, if_true, Tri.get_nil, e1]; simp; omega
            · simp only [q, decide_false, Bool.false_eq_true, if_false]
              have := ih .nil (k / 2) (j / 2) hk
              simp only [Tri.get_nil] at this
              show (Tri.put x n .nil (k / 2)).get (j / 2) = _
              rw [this]
              have : j % 2 = k % 2 := by omega
              simp only [e1, this, and_true]
        | node v l r =>
          simp only [Tri.put, hpar]
          by_cases p : k % 2 = 0
          · simp only [p, decide_true, if_true, Tri.get_succ, hpar]
            by_cases q : j % 2 = 0
            · simp only [q, decide_true, if_true]
              show (Tri.put x n l (k / 2)).get (j / 2) = if _ then _ else l.get (j / 2)
              rw [ih l (k / 2) (j / 2) hk]; simp only [e1, p, q, and_true]
            · simp only [q, decide_false, Bool.false_eq_true, if_false, e1, p]; simp
          · simp only [p, decide_false, Bool.false_eq_true, if_false, Tri.get_succ, hpar]
            by_cases q : j % 2 = 0
            · simp only [q, decide_true, if_true, e1]; rw [if_neg (by omega)]
            · simp only [q, decide_false, Bool.false_eq_true, if_false]
              show (Tri.put x n r (k / 2)).get (j / 2) = if _ then _ else r.get (j / 2)
              rw [ih r (k / 2) (j / 2) hk]
              have : j % 2 = k % 2 := by omega
              simp only [e1, this, and_true]

theorem Tri.get_set (t : Tri α) (k j : Nat) (x : α) : (t.set k x).get j = if j = k then some x else t.get j := Tri.get_put _ _ _ _ _ (Nat.lt_succ_self k)
theorem Tri.get_del (t : Tri α) (k j : Nat) : (t.del k).get j = if j = k then none else t.get j := Tri.get_put _ _ _ _ _ (Nat.lt_succ_self k)
theorem Tri.put_self : ∀ (n : Nat) (t : Tri α) (k : Nat) (v : α), k < n → t.get k = some v → Tri.put (some v) n t k = t := by
  intro n
  induction n with
  | zero => intro t k v h _; omega
  | succ n ih =>
    intro t k v hk h
    cases t with
    | nil => rw [Tri.get_nil] at h; cases h
    | node v' l r =>
      cases k with
      | zero =>
        have h : v' = some v := h
        subst h
        rfl
      | succ k =>
        rw [Tri.get_succ] at h
        simp only [Tri.put]
        have hd : Nat.div k 2 < n := by
          have : Nat.div k 2 ≤ k := Nat.div_le_self k 2
          omega
        split at h
        · rename_i q; rw [if_pos q, ih l _ v hd h]
        · rename_i q; rw [if_neg q, ih r _ v hd h]
theorem Tri.set_self {t : Tri α} {k : Nat} {v : α} (h : t.get k = some v) : t.set k v = t := Tri.put_self _ _ _ _ (Nat.lt_succ_self k) h
end tri

theorem AMem.get_set (M : AMem) (a j : Nat) (b : ABlk) : (M.set a b).get j = if j = a then some b else M.get j := Tri.get_set _ _ _ _
theorem AMem.get_kill (M : AMem) (a j : Nat) : (M.kill a).get j = if j = a then none else M.get j := Tri.get_del _ _ _
theorem AMem.get_new (M : AMem) (j : Nat) (b : ABlk) : (M.new b).get j = if j = M.next then some b else M.get j := Tri.get_set _ _ _ _
theorem AMem.next_set (M : AMem) (a : Nat) (b : ABlk) : (M.set a b).next = M.next := rfl
theorem AMem.next_kill (M : AMem) (a : Nat) : (M.kill a).next = M.next := rfl
theorem AMem.next_new (M : AMem) (b : ABlk) : (M.new b).next = M.next + 1 := rfl

def ABlk.own : ABlk → Bool
  | .ro _ => false
  | _ => true

def AMem.own (M : AMem) (a : Nat) : Bool := match M.get a with | some b => b.own | none => false

/-! ### places and values -/

/-- where an abstract block lies: concrete block, offset of its cell 0, the size of an element and how many cells there are from there on (of a row that slices of unknown capacity lie in) -/
structure Pl where
  b : Nat
  p : Nat
  sz : Nat
  lim : Nat

abbrev Loc := Nat → Option Pl

def Loc.le (ρ ρ' : Loc) : Prop := ∀ a l, ρ a = some l → ρ' a = some l

theorem Loc.le_refl (ρ : Loc) : ρ.le ρ := fun _ _ h => h
theorem Loc.le_trans {ρ σ τ : Loc} (h : ρ.le σ) (k : σ.le τ) : ρ.le τ := fun a l e => k a l (h a l e)

inductive VR (ρ : Loc) : AV → Value → Prop where
  | bool (b : Bool) : VR ρ (.bool b) (.bool b)
  | int (k : IntKind) (n : Int) : VR ρ (.int k n) (.int k n)
  | str (s : ByteArray) : VR ρ (.str s.data.toList) (.string s)
  | pnil : VR ρ (.ptr none) (.pointer none)
  | ptr (α o : Nat) (l : Pl) : ρ α = some l → VR ρ (.ptr (some (α, o))) (.pointer (some ⟨l.b, l.p + o, none⟩))
  | slnil : VR ρ (.slice none 0 (some 0)) (.slice none 0 0)
  | sl (α o n : Nat) (c : Option Nat) (l : Pl) (cap : Nat) : ρ α = some l → n ≤ cap → (c = some cap ∨ (c = none ∧ (l.sz = 0 ∨ o + cap * l.sz = l.lim))) → VR ρ (.slice (some (α, o)) n c) (.slice (some ⟨l.b, l.p + o, none⟩) n cap)
  | sl0 (x : Nat × Nat) (c : Option Nat) (a : Addr) (cap : Nat) : ((c = none ∧ x = (0, 0)) ∨ (c = some 0 ∧ cap = 0)) → VR ρ (.slice (some x) 0 c) (.slice (some a) 0 cap)
  | mnil : VR ρ (.map none) (.map none)
  | map (α : Nat) (l : Pl) : ρ α = some l → VR ρ (.map (some α)) (.map (some l.b))
  | func (fn : Fn) (xs cs : List AV) (ys ds : List Value) : xs.length = ys.length → cs.length = ds.length → (∀ (i : Nat) (x : AV) (y : Value), xs[i]? = some x → ys[i]? = some y → VR ρ x y) → (∀ (i : Nat) (x : AV) (y : Value), cs[i]? = some x → ds[i]? = some y → VR ρ x y) →
      VR ρ (.func fn xs cs) (.func fn ys.toArray ds.toArray)
  | nilFunc : VR ρ .nilFunc .nilFunc
  | iface (t : TypeId) (v : AV) (u : Value) : VR ρ v u → VR ρ (.iface t v) (.iface t u)
  | nilIface : VR ρ .nilIface .nilIface
  | agg (xs : List AV) (ys : List Value) : xs.length = ys.length → (∀ (i : Nat) (x : AV) (y : Value), xs[i]? = some x → ys[i]? = some y → VR ρ x y) → VR ρ (.agg xs) (.agg ys.toArray)
  | tup (xs : List AV) (ys : List Value) : xs.length = ys.length → (∀ (i : Nat) (x : AV) (y : Value), xs[i]? = some x → ys[i]? = some y → VR ρ x y) → VR ρ (.tup xs) (.tuple ys.toArray)

theorem VR.mono {ρ ρ' : Loc} (h : ρ.le ρ') {x : AV} {v : Value} (hv : VR ρ x v) : VR ρ' x v := by
  induction hv with
  | bool b => exact .bool b
  | int k n => exact .int k n
  | str s => exact .str s
  | pnil => exact .pnil
  | ptr α o l e => exact .ptr α o l (h _ _ e)
  | slnil => exact .slnil
  | sl α o n c l cap e h1 h2 => exact .sl α o n c l cap (h _ _ e) h1 h2
  | sl0 x c a cap h1 => exact .sl0 x c a cap h1
  | mnil => exact .mnil
  | map α l e => exact .map α l (h _ _ e)
  | func fn xs cs ys ds h1 h2 _ _ i1 i2 => exact .func fn xs cs ys ds h1 h2 i1 i2
  | nilFunc => exact .nilFunc
  | iface t v u _ ih => exact .iface t v u ih
  | nilIface => exact .nilIface
  | agg xs ys h1 _ ih => exact .agg xs ys h1 ih
  | tup xs ys h1 _ ih => exact .tup xs ys h1 ih

/-- lists of values -/
def VL (ρ : Loc) (xs : List AV) (ys : List Value) : Prop := xs.length = ys.length ∧ ∀ (i : Nat) (x : AV) (y : Value), xs[i]? = some x → ys[i]? = some y → VR ρ x y

theorem VL.mono {ρ ρ' : Loc} (h : ρ.le ρ') {xs : List AV} {ys : List Value} (hv : VL ρ xs ys) : VL ρ' xs ys := ⟨hv.1, fun i x y a b => (hv.2 i x y a b).mono h⟩
theorem VL.nil (ρ : Loc) : VL ρ [] [] := ⟨rfl, fun i x y h => by simp at h⟩
theorem VL.cons {ρ : Loc} {x : AV} {y : Value} {xs : List AV} {ys : List Value} (h : VR ρ x y) (hs : VL ρ xs ys) : VL ρ (x :: xs) (y :: ys) := by
  refine ⟨by simp [hs.1], fun i a b ha hb => ?_⟩
  cases i with
  | zero => simp at ha hb; subst ha; subst hb; exact h
  | succ i => exact hs.2 i a b (by simpa using ha) (by simpa using hb)
theorem VL.head {ρ : Loc} {x : AV} {y : Value} {xs : List AV} {ys : List Value} (h : VL ρ (x :: xs) (y :: ys)) : VR ρ x y := h.2 0 x y rfl rfl
theorem VL.tail {ρ : Loc} {x : AV} {y : Value} {xs : List AV} {ys : List Value} (h : VL ρ (x :: xs) (y :: ys)) : VL ρ xs ys :=
  ⟨by have := h.1; simpa using this, fun i a b ha hb => h.2 (i + 1) a b (by simpa using ha) (by simpa using hb)⟩
theorem VL.append {ρ : Loc} {xs us : List AV} {ys vs : List Value} (h : VL ρ xs ys) (k : VL ρ us vs) : VL ρ (xs ++ us) (ys ++ vs) := by
  refine ⟨by simp [h.1, k.1], fun i a b ha hb => ?_⟩
  by_cases hi : i < xs.length
  · rw [List.getElem?_append_left hi] at ha
    rw [List.getElem?_append_left (h.1 ▸ hi)] at hb
    exact h.2 i a b ha hb
  · rw [List.getElem?_append_right (by omega)] at ha
    rw [List.getElem?_append_right (by have := h.1; omega)] at hb
    exact k.2 _ a b ha (by rw [h.1]; exact hb)
theorem VL.take {ρ : Loc} {xs : List AV} {ys : List Value} (h : VL ρ xs ys) (n : Nat) : VL ρ (xs.take n) (ys.take n) := by
  refine ⟨by simp [h.1], fun i a b ha hb => ?_⟩
  rw [List.getElem?_take] at ha hb
  by_cases hi : i < n
  · rw [if_pos hi] at ha hb; exact h.2 i a b ha hb
  · rw [if_neg hi] at ha; cases ha
theorem VL.drop {ρ : Loc} {xs : List AV} {ys : List Value} (h : VL ρ xs ys) (n : Nat) : VL ρ (xs.drop n) (ys.drop n) := by
  refine ⟨by simp [h.1], fun i a b ha hb => ?_⟩
  rw [List.getElem?_drop] at ha hb
  exact h.2 _ a b ha hb
theorem VL.get {ρ : Loc} {xs : List AV} {ys : List Value} (h : VL ρ xs ys) {i : Nat} {x : AV} (hx : xs[i]? = some x) : ∃ y, ys[i]? = some y ∧ VR ρ x y := by
  have hi : i < xs.length := by
    rcases Nat.lt_or_ge i xs.length with h | h
    · exact h
    · rw [List.getElem?_eq_none h] at hx; cases hx
  have hi' : i < ys.length := by rw [← h.1]; exact hi
  exact ⟨ys[i], List.getElem?_eq_getElem hi', h.2 i x _ hx (List.getElem?_eq_getElem hi')⟩

theorem VR.agg_inv {ρ : Loc} {xs : List AV} {v : Value} (h : VR ρ (.agg xs) v) : ∃ ys, v = .agg ys.toArray ∧ VL ρ xs ys := by
  cases h with | agg _ ys h1 h2 => exact ⟨ys, rfl, h1, h2⟩
theorem VR.tup_inv {ρ : Loc} {xs : List AV} {v : Value} (h : VR ρ (.tup xs) v) : ∃ ys, v = .tuple ys.toArray ∧ VL ρ xs ys := by
  cases h with | tup _ ys h1 h2 => exact ⟨ys, rfl, h1, h2⟩
theorem VL.agg {ρ : Loc} {xs : List AV} {ys : List Value} (h : VL ρ xs ys) : VR ρ (.agg xs) (.agg ys.toArray) := .agg xs ys h.1 h.2
theorem VL.tup {ρ : Loc} {xs : List AV} {ys : List Value} (h : VL ρ xs ys) : VR ρ (.tup xs) (.tuple ys.toArray) := .tup xs ys h.1 h.2

theorem VR.undef (ρ : Loc) : VR ρ undefA undef := (VL.nil ρ).tup

/-- a value's cells -/
theorem VR.cells {ρ : Loc} {x : AV} {v : Value} (h : VR ρ x v) : VL ρ x.cells v.cells.toList := by
  have one : ∀ {x : AV} {v : Value}, VR ρ x v → VL ρ [x] [v] := fun h => VL.cons h (VL.nil ρ)
  cases h with
  | agg xs ys h1 h2 => exact ⟨h1, h2⟩
  | bool b => exact one (.bool b)
  | int k n => exact one (.int k n)
  | str s => exact one (.str s)
  | pnil => exact one .pnil
  | ptr α o l e => exact one (.ptr α o l e)
  | slnil => exact one .slnil
  | sl α o n c l cap e h1 h2 => exact one (.sl α o n c l cap e h1 h2)
  | sl0 x c a cap h1 => exact one (.sl0 x c a cap h1)
  | mnil => exact one .mnil
  | map α l e => exact one (.map α l e)
  | func fn xs cs ys ds h1 h2 h3 h4 => exact one (.func fn xs cs ys ds h1 h2 h3 h4)
  | nilFunc => exact one .nilFunc
  | iface t v u h => exact one (.iface t v u h)
  | nilIface => exact one .nilIface
  | tup xs ys h1 h2 => exact one (.tup xs ys h1 h2)

/-- a flat value is one cell in the model, too -/
theorem VR.flat {ρ : Loc} {x : AV} {v : Value} (h : VR ρ x v) (hf : flatA x = true) : v.oneCell' = true := by
  cases h <;> first | rfl | (simp [flatA] at hf)

/-! ### memory -/

/-- the frozen cells of a row -/
def unfrozen (fz : Nat × Nat) (p n : Nat) : Prop := ∀ j, p ≤ j → j < n → ¬(fz.1 ≤ j ∧ j < fz.2)

/-- what lies behind the known cells of a row: values that hold no address -/
def Spare (C : List Value) (a b : Nat) : Prop := ∀ j v, a ≤ j → j < b → C[j]? = some v → ∃ x : AV, ∀ ρ : Loc, VR ρ x v

/-- what a row's mark says -/
def ClR (cl : Cl) (sz : Nat) (l : Pl) (e : TypeId) (fz : Nat × Nat) : Prop := (cl.b = true → fz.1 = fz.2) ∧ (∀ t, cl = .of t → e = t ∧ (sz = 0 → l.p = 0)) ∧ ∀ t n, cl = .fz t n → e = t ∧ (fz.1 = fz.2 ∨ (fz.1 = l.p ∧ fz.2 ≤ l.p + n))

theorem Cl.re_of {e : TypeId} {c : Cl} {t : TypeId} (h : c.re e = .of t) : c = .of t ∧ e = t := by
  cases c with
  | yes => cases h
  | no => cases h
  | of u =>
    simp only [Cl.re] at h
    split at h
    · rename_i hb; cases h; exact ⟨rfl, (Nat.eq_of_beq_eq_true hb).symm⟩
    · cases h
  | fz u n => cases h

theorem Cl.re_fz {e : TypeId} {c : Cl} {t : TypeId} {n : Nat} (h : c.re e = .fz t n) : c = .fz t n := by
  cases c with
  | yes => cases h
  | no => cases h
  | of u =>
    simp only [Cl.re] at h
    split at h <;> cases h
  | fz u n => exact h

theorem Cl.re_fzn (e : TypeId) (c : Cl) : (c.re e).fzn = c.fzn := by
  cases c with
  | of u =>
    simp only [Cl.re]
    split <;> rfl
  | _ => rfl

theorem Cl.re_b {e : TypeId} {c : Cl} (h : (c.re e).b = true) : c.b = true := by
  cases c with
  | yes => rfl
  | no => cases h
  | of u => rfl
  | fz u n => cases h

theorem ClR.re {e e' : TypeId} {cl : Cl} {sz sz' : Nat} {l l' : Pl} {fz : Nat × Nat} (h : ClR cl sz l e' fz) (hs : sz' ≠ 0) (hp : ∀ t n, cl = .fz t n → l'.p = l.p) : ClR (cl.re e) sz' l' e' fz :=
  ⟨fun hb => h.1 (Cl.re_b hb), fun t ht => ⟨(h.2.1 t (Cl.re_of ht).1).1, fun h0 => absurd h0 hs⟩, fun t n ht => by
    have hc := Cl.re_fz ht
    rw [hp t n hc]
    exact h.2.2 t n hc⟩

theorem ClR.no (sz : Nat) (l : Pl) (e : TypeId) (fz : Nat × Nat) : ClR .no sz l e fz := ⟨fun h => (by cases h), fun t h => (by cases h), fun t n h => (by cases h)⟩

theorem beqCl_eq {a b : Cl} (h : beqCl a b = true) : a = b := by
  cases a <;> cases b <;> first | rfl | (cases h; done) | skip
  · rw [Nat.eq_of_beq_eq_true h]
  · simp only [beqCl, Bool.and_eq_true] at h
    rw [Nat.eq_of_beq_eq_true h.1, Nat.eq_of_beq_eq_true h.2]

inductive BlkR (ρ : Loc) (w : World) : ABlk → Pl → Prop where
  | cells (c : List AV) (sz : Nat) (cl : Cl) (l : Pl) (C : List Value) (e : TypeId) (fz : Nat × Nat) :
      w.heap[l.b]? = some (.cells C.toArray e fz) → VL ρ c ((C.drop l.p).take c.length) → unfrozen fz (l.p + cl.fzn) C.length →
      ClR cl sz l e fz → (sz ≠ 0 → l.sz = sz ∧ l.p + l.lim ≤ C.length ∧ c.length ≤ l.lim ∧ Spare C (l.p + c.length) (l.p + l.lim)) → BlkR ρ w (.cells c sz cl) l
  | ro (c : List AV) (l : Pl) (C : List Value) (e : TypeId) (fz : Nat × Nat) :
      w.heap[l.b]? = some (.cells C.toArray e fz) → VL ρ c ((C.drop l.p).take c.length) → l.sz = 0 → BlkR ρ w (.ro c) l
  | map (es : List (AV × AV × Nat)) (clock : Nat) (l : Pl) (ES : List MapEntry) :
      w.heap[l.b]? = some (.map ES.toArray clock) → es.length = ES.length →
      (∀ (i : Nat) (e : AV × AV × Nat) (E : MapEntry), es[i]? = some e → ES[i]? = some E → VR ρ e.1 E.key ∧ VR ρ e.2.1 E.val ∧ e.2.2 = E.born) → BlkR ρ w (.map es clock) l

structure Sim (ρ : Loc) (M : AMem) (w : World) : Prop where
  dom : ∀ α l, ρ α = some l → α < M.next
  inb : ∀ α l, ρ α = some l → l.b < w.heap.size
  blk : ∀ α l B, ρ α = some l → M.get α = some B → BlkR ρ w B l
  sep : ∀ α β l k, α ≠ β → ρ α = some l → ρ β = some k → l.b = k.b → M.own α = true → M.get β = none
  wf : ∀ α, M.next ≤ α → M.get α = none

/-- what an evaluation keeps -/
structure Ext (ρ : Loc) (M : AMem) (w : World) (ρ' : Loc) (M' : AMem) (w' : World) : Prop where
  sub : ρ.le ρ'
  next : M.next ≤ M'.next
  size : w.heap.size ≤ w'.heap.size
  os : w'.os = w.os
  tape : w'.tape = w.tape
  output : w'.output = w.output
  muts : ∀ α l, ρ α = some l → M'.own α = true → M.own α = true
  fresh : ∀ α l, ρ α = none → ρ' α = some l → M.next ≤ α ∧ (w.heap.size ≤ l.b ∨ ∃ β k, ρ β = some k ∧ k.b = l.b ∧ M.own β = true)
  keep : ∀ b, b < w.heap.size → (∀ β k, ρ β = some k → k.b = b → M.own β = false) → w'.heap[b]? = w.heap[b]?

theorem Ext.refl (ρ : Loc) (M : AMem) (w : World) : Ext ρ M w ρ M w :=
  ⟨Loc.le_refl ρ, Nat.le_refl _, Nat.le_refl _, rfl, rfl, rfl, fun _ _ _ h => h, (fun α l h1 h2 => (by rw [h1] at h2; cases h2)), fun _ _ _ => rfl⟩

theorem Ext.trans {ρ ρ1 ρ2 : Loc} {M M1 M2 : AMem} {w w1 w2 : World} (h : Ext ρ M w ρ1 M1 w1) (k : Ext ρ1 M1 w1 ρ2 M2 w2) : Ext ρ M w ρ2 M2 w2 := by
  refine ⟨Loc.le_trans h.sub k.sub, Nat.le_trans h.next k.next, Nat.le_trans h.size k.size, k.os.trans h.os, k.tape.trans h.tape, k.output.trans h.output, ?_, ?_, ?_⟩
  · exact fun α l e hm => h.muts α l e (k.muts α l (h.sub α l e) hm)
  · intro α l e1 e2
    cases e : ρ1 α with
    | none =>
      obtain ⟨h1, h2⟩ := k.fresh α l e e2
      refine ⟨Nat.le_trans h.next h1, ?_⟩
      rcases h2 with h2 | ⟨β, m, b1, b2, b3⟩
      · exact .inl (Nat.le_trans h.size h2)
      · cases eb : ρ β with
        | none =>
          obtain ⟨_, f2⟩ := h.fresh β m eb b1
          rcases f2 with f2 | ⟨γ, n, c1, c2, c3⟩
          · exact .inl (b2 ▸ f2)
          · exact .inr ⟨γ, n, c1, c2.trans b2, c3⟩
        | some m' =>
          have : ρ1 β = some m' := h.sub β m' eb
          rw [this] at b1; cases b1
          exact .inr ⟨β, _, eb, b2, h.muts β _ eb b3⟩
    | some l' =>
      have : ρ2 α = some l' := k.sub α l' e
      rw [this] at e2; cases e2
      exact h.fresh α _ e1 e
  · intro b hb hm
    rw [← h.keep b hb hm]
    refine k.keep b (Nat.lt_of_lt_of_le hb h.size) fun β m e eb => ?_
    cases hq : M1.own β with
    | false => rfl
    | true =>
      exfalso
      cases e0 : ρ β with
      | none =>
        obtain ⟨_, f2⟩ := h.fresh β m e0 e
        rcases f2 with f2 | ⟨γ, n, c1, c2, c3⟩
        · omega
        · have := hm γ n c1 (c2.trans eb); rw [this] at c3; cases c3
      | some m' =>
        have h1 : ρ1 β = some m' := h.sub β m' e0
        rw [h1] at e; cases e
        have := hm β _ e0 eb
        rw [h.muts β _ e0 hq] at this; cases this

/-- behind an evaluation that began with nothing writable, all old blocks are as they were -/
theorem Ext.below {ρ ρ' : Loc} {M M' : AMem} {w w' : World} (h : Ext ρ M w ρ' M' w') (hm : ∀ α, M.own α = false) : RowKit.Below w.heap.size w w' :=
  ⟨h.os, h.tape, h.output, h.size, fun b hb => h.keep b hb fun β _ _ _ => hm β⟩

/-! ### frames -/
structure FrR (ρ : Loc) (nt : Nat) (fr : Fr) (tmps : Array Value) : Prop where
  size : tmps.size = nt
  val : ∀ t v, fr.get t = some v → VR ρ v (tmps.getD t undef)

theorem FrR.mono {ρ ρ' : Loc} (h : ρ.le ρ') {nt : Nat} {fr : Fr} {tmps : Array Value} (hf : FrR ρ nt fr tmps) : FrR ρ' nt fr tmps := ⟨hf.size, fun t v e => (hf.val t v e).mono h⟩

theorem getD_put_ne (a : Act) (d t : Nat) (x : Value) (e : t ≠ d) : ((a.put (some d) x).tmps).getD t undef = a.tmps.getD t undef := by
  simp only [Act.put, Array.getD_eq_getD_getElem?]
  rw [Array.getElem?_setIfInBounds_ne (Ne.symm e)]

theorem getD_put_eq (a : Act) (d : Nat) (x : Value) (h : d < a.tmps.size) : ((a.put (some d) x).tmps).getD d undef = x := by
  simp [Act.put, Array.getD, h]

theorem FrR.put {ρ : Loc} {nt : Nat} {fr fr' : Fr} {a : Act} (hf : FrR ρ nt fr a.tmps) {d : Option Tmp} {v : AV} {x : Value} (hv : VR ρ v x) (h : putA nt fr d v = some fr') :
    FrR ρ nt fr' (a.put d x).tmps := by
  cases d with
  | none => simp only [putA, Option.some.injEq] at h; subst h; exact hf
  | some d =>
    simp only [putA] at h
    split at h
    · rename_i hlt
      have hlt' : d < nt := by simpa using hlt
      simp only [Option.some.injEq] at h
      subst h
      refine ⟨by simp [Act.put, hf.size], fun t u hu => ?_⟩
      rw [Tri.get_set] at hu
      by_cases e : t = d
      · subst e
        rw [if_pos rfl] at hu
        cases hu
        rw [getD_put_eq _ _ _ (by rw [hf.size]; exact hlt')]
        exact hv
      · rw [if_neg e] at hu
        rw [getD_put_ne _ _ _ _ e]
        exact hf.val t u hu
    · cases h

theorem FrR.keep {ρ : Loc} {nt : Nat} {fr : Fr} {tmps : Array Value} (hf : FrR ρ nt fr tmps) : ∀ (l : List Nat) (acc : Fr), FrR ρ nt acc tmps → FrR ρ nt (keepFrom fr l acc) tmps := by
  intro l
  induction l with
  | nil => intro acc h; exact h
  | cons t ts ih =>
    intro acc h
    simp only [keepFrom]
    apply ih
    split
    · rename_i v hv
      refine ⟨h.size, fun u x hx => ?_⟩
      rw [Tri.get_set] at hx
      by_cases e : u = t
      · subst e; rw [if_pos rfl] at hx; cases hx; exact hf.val u v hv
      · rw [if_neg e] at hx; exact h.val u x hx
    · exact h

theorem FrR.nil (ρ : Loc) (nt : Nat) (tmps : Array Value) (h : tmps.size = nt) : FrR ρ nt .nil tmps := ⟨h, fun t v e => by rw [Tri.get_nil] at e; cases e⟩

/-! ### constants and operands -/
theorem absFlat_sound (ρ : Loc) {v : Value} {x : AV} (h : absFlat v = some x) : VR ρ x v := by
  unfold absFlat at h
  split at h
  case h_1 => cases h; exact .bool _
  case h_2 => cases h; exact .int _ _
  case h_3 => cases h; exact .str _
  case h_4 => cases h; exact .pnil
  case h_5 =>
    split at h
    · rename_i hc; obtain ⟨rfl, rfl⟩ := hc; cases h; exact .slnil
    · cases h
  case h_6 => cases h; exact .mnil
  case h_7 => cases h; exact .nilFunc
  case h_8 => cases h; exact .nilIface
  case h_9 f a b =>
    split at h
    · rename_i hc
      obtain ⟨ha, hb⟩ := hc
      obtain ⟨a⟩ := a; obtain ⟨b⟩ := b
      cases a with
      | nil => cases b with
        | nil => cases h; exact .func _ [] [] [] [] rfl rfl (fun i x y h => by simp at h) (fun i x y h => by simp at h)
        | cons y b => simp at hb
      | cons y a => simp at ha
    · cases h
  case h_10 => cases h

theorem absL_sound (ρ : Loc) {f : Value → Option AV} (hf : ∀ {v x}, f v = some x → VR ρ x v) : ∀ {l : List Value} {xs : List AV}, absL f l = some xs → VL ρ xs l := by
  intro l
  induction l with
  | nil => intro xs h; simp only [absL, Option.some.injEq] at h; subst h; exact VL.nil ρ
  | cons v l ih =>
    intro xs h
    simp only [absL] at h
    split at h
    · rename_i x xs' h1 h2
      cases h
      exact VL.cons (hf h1) (ih h2)
    · cases h

theorem absOne_sound (ρ : Loc) {v : Value} {x : AV} (h : absOne v = some x) : VR ρ x v := by
  unfold absOne at h
  split at h
  · simp only [Option.map_eq_some_iff] at h
    obtain ⟨xs, hxs, rfl⟩ := h
    exact (absL_sound ρ (absFlat_sound ρ) hxs).agg
  · exact absFlat_sound ρ h

theorem absV_sound (ρ : Loc) {v : Value} {x : AV} (h : absV v = some x) : VR ρ x v := by
  unfold absV at h
  split at h
  · simp only [Option.map_eq_some_iff] at h
    obtain ⟨xs, hxs, rfl⟩ := h
    exact (absL_sound ρ (absOne_sound ρ) hxs).tup
  · exact absOne_sound ρ h

/-- the globals lie where they lie -/
def GlobR (P : Program) (ρ : Loc) : Prop := ∀ g, g < gN P → ρ g = some ⟨g, 0, 0, 0⟩

theorem GlobR.mono {P : Program} {ρ ρ' : Loc} (h : ρ.le ρ') (hg : GlobR P ρ) : GlobR P ρ' := fun g e => h _ _ (hg g e)

section
variable {P : Program} {ρ : Loc} {nt : Nat} {fr : Fr} {a : Act}

theorem evA_sound (hg : GlobR P ρ) (hf : FrR ρ nt fr a.tmps) {x : Operand} {v : AV} (h : evA P fr x = some v) : VR ρ v (a.eval x) := by
  cases x with
  | tmp t => exact hf.val t v h
  | const c => exact absV_sound ρ h
  | global g =>
    simp only [evA] at h
    split at h
    · rename_i hlt
      cases h
      exact .ptr g 0 ⟨g, 0, 0, 0⟩ (hg g hlt)
    · cases h
  | func f => simp only [evA, Option.some.injEq] at h; subst h; exact .func _ [] [] [] [] rfl rfl (fun i x y h => by simp at h) (fun i x y h => by simp at h)

theorem evL_sound (hg : GlobR P ρ) (hf : FrR ρ nt fr a.tmps) : ∀ {l : List Operand} {vs : List AV}, evL P fr l = some vs → VL ρ vs (l.map a.eval) := by
  intro l
  induction l with
  | nil => intro vs h; simp only [evL, Option.some.injEq] at h; subst h; exact VL.nil ρ
  | cons x l ih =>
    intro vs h
    simp only [evL] at h
    split at h
    · rename_i v vs' h1 h2
      cases h
      exact VL.cons (evA_sound hg hf h1) (ih h2)
    · cases h

/-- numbered parts -/
def PL (ρ : Loc) (xs : List (Nat × AV)) (ys : List (Nat × Value)) : Prop :=
  xs.length = ys.length ∧ ∀ (i : Nat) (x : Nat × AV) (y : Nat × Value), xs[i]? = some x → ys[i]? = some y → x.1 = y.1 ∧ VR ρ x.2 y.2

theorem PL.tail {x : Nat × AV} {y : Nat × Value} {xs : List (Nat × AV)} {ys : List (Nat × Value)} (h : PL ρ (x :: xs) (y :: ys)) : PL ρ xs ys :=
  ⟨by have := h.1; simpa using this, fun i a b ha hb => h.2 (i + 1) a b (by simpa using ha) (by simpa using hb)⟩

theorem evParts_sound (hg : GlobR P ρ) (hf : FrR ρ nt fr a.tmps) : ∀ {l : List (Nat × Operand)} {vs : List (Nat × AV)}, evParts P fr l = some vs → PL ρ vs (l.map fun p => (p.1, a.eval p.2)) := by
  intro l
  induction l with
  | nil => intro vs h; simp only [evParts, Option.some.injEq] at h; subst h; exact ⟨rfl, fun i x y h => by simp at h⟩
  | cons p l ih =>
    obtain ⟨i, x⟩ := p
    intro vs h
    simp only [evParts] at h
    split at h
    · rename_i v vs' h1 h2
      cases h
      have hi := ih h2
      refine ⟨by simp [hi.1], fun j u w hu hw => ?_⟩
      cases j with
      | zero => simp at hu hw; subst hu; subst hw; exact ⟨rfl, evA_sound hg hf h1⟩
      | succ j => exact hi.2 j u w (by simpa using hu) (by simpa using hw)
    · cases h
end

end Go.Ab
