/-
  Slices of plain elements that came in: read-only blocks of the abstract memory.
-/
import Derived.Test.YtfpgakjikmakkaaGreatDoorAbLaw
import Derived.Lib.SmallJoins
namespace Go.Ab
open Go.Deep Go.ChangeMaps Go.ChangeShapes Go.WideShapes Go.RowKit Go.Joins
set_option linter.unusedVariables false
set_option linter.unusedSimpArgs false

/-- how an element of a type stands in cells: told of the model, and of the abstract memory -/
structure Elt (X : Type) (w : Nat) where
  ev : X → List Value
  ea : X → List AV
  lv : ∀ x, (ev x).length = w
  la : ∀ x, (ea x).length = w
  vl : ∀ ρ x, VL ρ (ea x) (ev x)

variable {X : Type} {w : Nat} (E : Elt X w)

def Elt.vals : List X → List Value
  | [] => []
  | x :: xs => E.ev x ++ vals xs
def Elt.cells : List X → List AV
  | [] => []
  | x :: xs => E.ea x ++ cells xs

theorem Elt.vals_len : ∀ xs : List X, (E.vals xs).length = xs.length * w
  | [] => by simp [Elt.vals]
  | x :: xs => by
    show (E.ev x ++ E.vals xs).length = _
    rw [List.length_append, E.lv, Elt.vals_len xs, List.length_cons, Nat.succ_mul]; omega
theorem Elt.cells_len : ∀ xs : List X, (E.cells xs).length = xs.length * w
  | [] => by simp [Elt.cells]
  | x :: xs => by
    show (E.ea x ++ E.cells xs).length = _
    rw [List.length_append, E.la, Elt.cells_len xs, List.length_cons, Nat.succ_mul]; omega
theorem Elt.vl_all (ρ : Loc) : ∀ xs : List X, VL ρ (E.cells xs) (E.vals xs)
  | [] => VL.nil ρ
  | x :: xs => by
    show VL ρ (E.ea x ++ E.cells xs) (E.ev x ++ E.vals xs)
    exact (E.vl ρ x).append (Elt.vl_all ρ xs)

theorem Elt.vals_get : ∀ (xs : List X) (i j : Nat) (hj : j < w), (E.vals xs)[i * w + j]? = xs[i]?.bind fun x => (E.ev x)[j]?
  | [], i, j, hj => by simp [Elt.vals]
  | x :: xs, 0, j, hj => by
    show (E.ev x ++ E.vals xs)[0 * w + j]? = _
    rw [Nat.zero_mul, Nat.zero_add, List.getElem?_append_left (by rw [E.lv]; exact hj)]
    rfl
  | x :: xs, i + 1, j, hj => by
    show (E.ev x ++ E.vals xs)[(i + 1) * w + j]? = _
    rw [List.getElem?_append_right (by rw [E.lv, Nat.succ_mul]; omega), E.lv, show (i + 1) * w + j - w = i * w + j by rw [Nat.succ_mul]; omega, Elt.vals_get xs i j hj, List.getElem?_cons_succ]
theorem Elt.cells_get : ∀ (xs : List X) (i j : Nat) (hj : j < w), (E.cells xs)[i * w + j]? = xs[i]?.bind fun x => (E.ea x)[j]?
  | [], i, j, hj => by simp [Elt.cells]
  | x :: xs, 0, j, hj => by
    show (E.ea x ++ E.cells xs)[0 * w + j]? = _
    rw [Nat.zero_mul, Nat.zero_add, List.getElem?_append_left (by rw [E.la]; exact hj)]
    rfl
  | x :: xs, i + 1, j, hj => by
    show (E.ea x ++ E.cells xs)[(i + 1) * w + j]? = _
    rw [List.getElem?_append_right (by rw [E.la, Nat.succ_mul]; omega), E.la, show (i + 1) * w + j - w = i * w + j by rw [Nat.succ_mul]; omega, Elt.cells_get xs i j hj, List.getElem?_cons_succ]

/-- what lies at a slice -/
def Elt.At (W : World) (a : Addr) (len : Nat) : Prop := ∀ i, i < len → ∃ x, ∀ j (hj : j < w), W.cell? ((a.add (i * w)).add j) = (E.ev x)[j]?

theorem Elt.at_list {W : World} {a : Addr} {len : Nat} (h0 : 0 < len) (hw : 0 < w) (h : E.At W a len) :
    ∃ (b off : Nat) (xs : List X), a = ⟨b, off, none⟩ ∧ xs.length = len ∧ ∀ j (hj : j < (E.vals xs).length), W.cell? ⟨b, off + j, none⟩ = some (E.vals xs)[j] := by
  obtain ⟨b, off, spot⟩ := a
  obtain ⟨x0, h1⟩ := h 0 h0
  have hspot : spot = none := by
    have h2 := h1 0 hw
    rw [List.getElem?_eq_getElem (by rw [E.lv]; exact hw)] at h2
    have h := World.cell?_spot h2
    simpa [Addr.add] using h
  subst hspot
  let g : Nat → X := fun i => if h' : i < len then (h i h').choose else x0
  have hg : ∀ i, i < len → ∀ j (hj : j < w), W.cell? ⟨b, off + i * w + j, none⟩ = (E.ev (g i))[j]? := fun i hi j hj => by
    have hs := (h i hi).choose_spec j hj
    have e : g i = (h i hi).choose := by simp only [g, dif_pos hi]
    rw [e, ← hs, add_none, add_none]
  have hxl : ((List.range len).map g).length = len := by simp
  refine ⟨b, off, (List.range len).map g, rfl, hxl, fun j hj => ?_⟩
  rw [E.vals_len, hxl] at hj
  have hq : j / w < len := Nat.div_lt_of_lt_mul (by rw [Nat.mul_comm]; exact hj)
  have hm : j % w < w := Nat.mod_lt _ hw
  have hjd : j = j / w * w + j % w := by rw [Nat.mul_comm]; exact (Nat.div_add_mod j w).symm
  have key : (E.vals ((List.range len).map g))[j]? = W.cell? ⟨b, off + j, none⟩ := by
    have e := E.vals_get ((List.range len).map g) (j / w) (j % w) hm
    rw [← hjd] at e
    rw [e, List.getElem?_eq_getElem (by rw [hxl]; exact hq)]
    have hgd : ((List.range len).map g)[j / w]'(by rw [hxl]; exact hq) = g (j / w) := by simp
    rw [hgd, Option.bind_some, ← hg _ hq _ hm]
    congr 2
    omega
  rw [← key, List.getElem?_eq_getElem]

/-- a slice that came in -/
structure Elt.In (M : AMem) (u : Option (Nat × Nat)) (l : Nat) (xs : List X) : Prop where
  len : xs.length = l
  is : l = 0 ∨ ∃ a, u = some (a, 0) ∧ a < M.next ∧ M.row a = some (E.cells xs)

theorem Elt.In.moved {M M' : AMem} {u : Option (Nat × Nat)} {l : Nat} {xs : List X} (h : E.In M u l xs) (k1 : M.next ≤ M'.next) (k2 : ∀ t, t < M.next → M'.get t = M.get t) : E.In M' u l xs := by
  refine ⟨h.len, ?_⟩
  rcases h.is with h | ⟨a, h1, h2, h3⟩
  · exact .inl h
  · refine .inr ⟨a, h1, Nat.lt_of_lt_of_le h2 k1, ?_⟩
    unfold AMem.row at h3 ⊢
    rw [k2 a h2]
    exact h3

theorem Elt.slice_in {ρ : Loc} {M : AMem} {W : World} (s : Sim ρ M W) (hro : ∀ α, M.own α = false) (hw : 0 < w) {v : Value}
    (h : v = .slice none 0 0 ∨ ∃ (a : Addr) (len cap : Nat), v = .slice (some a) len cap ∧ len ≤ cap ∧ E.At W a len) :
    ∃ ρ' M' u l c xs, Sim ρ' M' W ∧ (∀ α, M'.own α = false) ∧ ρ.le ρ' ∧ VR ρ' (.slice u l c) v ∧ E.In M' u l xs ∧ M.next ≤ M'.next ∧ ∀ t, t < M.next → M'.get t = M.get t := by
  rcases h with rfl | ⟨a, len, cap, rfl, hlc, hat⟩
  · exact ⟨ρ, M, none, 0, some 0, [], s, hro, fun _ _ e => e, .slnil, ⟨rfl, .inl rfl⟩, Nat.le_refl _, fun _ _ => rfl⟩
  · by_cases h0 : len = 0
    · subst h0
      exact ⟨ρ, M, some (0, 0), 0, none, [], s, hro, fun _ _ e => e, .sl0 (0, 0) none a cap (.inl ⟨rfl, rfl⟩), ⟨rfl, .inl rfl⟩, Nat.le_refl _, fun _ _ => rfl⟩
    · obtain ⟨b, off, xs, rfl, hxl, hc⟩ := E.at_list (by omega) hw hat
      obtain ⟨s1, s2, s3⟩ := s.addRo hro (b := b) (off := off) (E.vl_all _ xs) (by rw [E.vals_len, hxl]; exact Nat.mul_pos (by omega) hw) hc
      refine ⟨_, _, some (M.next, 0), len, some cap, xs, s1, s2, s3, .sl M.next 0 len (some cap) ⟨b, off, 0, 0⟩ cap (Loc.upd_same _ _ _) hlc (.inl rfl), ⟨hxl, .inr ⟨M.next, rfl, Nat.lt_succ_self _, row_ro (by rw [AMem.get_new, if_pos rfl])⟩⟩, Nat.le_succ _, fun t ht => ?_⟩
      rw [AMem.get_new, if_neg (by omega)]

theorem slice_of_trod {H : Type} {enc : TypeId × Value → H} {P : Program} {W : World} {base fuel : Nat} {spare : Nat → Bool} {held : Bool} {t e : TypeId} {v : Value} {x : DataW H × List MemPlace} (ht : P.underlying t = some (.slice e)) (he : P.cellsOf e = w)
    (hE : ∀ {n : Nat} {cs : List Value} {y : DataW H × List MemPlace}, cs.length = w → DataW.trod enc P W base spare held n e cs = some y → ∃ x, cs = E.ev x)
    (h : DataW.trod enc P W base spare held fuel t [v] = some x) :
    v = .slice none 0 0 ∨ ∃ (a : Addr) (len cap : Nat), v = .slice (some a) len cap ∧ len ≤ cap ∧ E.At W a len := by
  rcases DataW.trod_slice ht h with ⟨h0, _⟩ | ⟨a, len, cap, elems, rest, n, _, hv, hx, _, hl, _, hlen, hel, _, _⟩
  · left; simpa using h0
  · right
    refine ⟨a, len, cap, by simpa using hv, hl, fun i hi => ?_⟩
    have hy := hel i hi
    rw [List.getElem?_eq_getElem (by omega), Option.bind_eq_some_iff, he] at hy
    obtain ⟨cs, hcs, hy⟩ := hy
    obtain ⟨_, hcl, hcell⟩ := World.cells?_some hcs
    obtain ⟨y, rfl⟩ := hE hcl hy
    refine ⟨y, fun j hj => ?_⟩
    rw [hcell j hj]
    try exact (List.getElem?_eq_getElem (by rw [E.lv]; exact hj)).symm
end Go.Ab
