/-
  A slice of triples that comes in: the acts of the pool's laws.
-/
import Derived.Test.YtiecjbgefkelfaaDoorBitsTab
import Derived.Test.YtiecjbgefkelfaaDoorOnceRun
import Derived.Deep.Strs
namespace Go.Proofs.YtiecjbgefkelfaaDoor
open Go.ChangeShapes Go.WideShapes Go.ChangeAt Go.WideMaps Go.WideElems Go.RowKit Go.Ab
set_option linter.unusedVariables false
set_option linter.unusedSimpArgs false

def act3Vals (xs : List (Int × Int × Nat)) : List Value := xs.flatMap fun x => [.int .i64 x.1, .int .i64 x.2.1, .int .u32 x.2.2]

theorem act3Vals_get : ∀ {xs : List (Int × Int × Nat)} {w : Nat}, w < xs.length → (act3Vals xs)[w * 3 + 0]? = some (.int .i64 (xs.getD w (0, 0, 0)).1) ∧ (act3Vals xs)[w * 3 + 1]? = some (.int .i64 (xs.getD w (0, 0, 0)).2.1) ∧ (act3Vals xs)[w * 3 + 2]? = some (.int .u32 (xs.getD w (0, 0, 0)).2.2)
  | [], w, h => absurd h (Nat.not_lt_zero _)
  | x :: xs, 0, _ => ⟨rfl, rfl, rfl⟩
  | x :: xs, w + 1, h => by
    have := act3Vals_get (xs := xs) (w := w) (by simpa using h)
    have e : ∀ b, (w + 1) * 3 + b = (w * 3 + b) + 1 + 1 + 1 := fun b => by omega
    show (Value.int .i64 x.1 :: Value.int .i64 x.2.1 :: Value.int .u32 x.2.2 :: act3Vals xs)[_]? = _ ∧ (Value.int .i64 x.1 :: Value.int .i64 x.2.1 :: Value.int .u32 x.2.2 :: act3Vals xs)[_]? = _ ∧ (Value.int .i64 x.1 :: Value.int .i64 x.2.1 :: Value.int .u32 x.2.2 :: act3Vals xs)[_]? = _
    rw [e, e, e, List.getElem?_cons_succ, List.getElem?_cons_succ, List.getElem?_cons_succ, List.getElem?_cons_succ, List.getElem?_cons_succ, List.getElem?_cons_succ, List.getElem?_cons_succ, List.getElem?_cons_succ, List.getElem?_cons_succ]
    simpa using this

theorem act3Vals_len : ∀ xs : List (Int × Int × Nat), (act3Vals xs).length = xs.length * 3
  | [] => rfl
  | x :: xs => by
    show (Value.int .i64 x.1 :: Value.int .i64 x.2.1 :: Value.int .u32 x.2.2 :: act3Vals xs).length = _
    rw [List.length_cons, List.length_cons, List.length_cons, act3Vals_len xs, List.length_cons]; omega

theorem act3Vals_VL (ρ : Ab.Loc) : ∀ xs : List (Int × Int × Nat), VL ρ (act3Cells xs) (act3Vals xs)
  | [] => VL.nil ρ
  | x :: xs => VL.cons (.int _ _) (VL.cons (.int _ _) (VL.cons (.int _ _) (act3Vals_VL ρ xs)))

theorem acts3_at {W : World} {a : Addr} {len : Nat} (h0 : 0 < len) (hel : ∀ i, i < len → ∃ (q0 q1 : Int) (q2 : Nat), W.cell? (a.add (i * 3)) = some (.int .i64 q0) ∧ W.cell? ((a.add (i * 3)).add 1) = some (.int .i64 q1) ∧ W.cell? ((a.add (i * 3)).add 2) = some (.int .u32 q2) ∧ q2 < 4294967296) :
    ∃ (b off : Nat) (xs : List (Int × Int × Nat)), a = ⟨b, off, none⟩ ∧ xs.length = len ∧ (∀ x ∈ xs, x.2.2 < 4294967296) ∧ ∀ j (hj : j < (act3Vals xs).length), W.cell? ⟨b, off + j, none⟩ = some (act3Vals xs)[j] := by
  obtain ⟨b, off, spot⟩ := a
  obtain ⟨_, _, _, h1, _⟩ := hel 0 h0
  have hspot : spot = none := by
    have h := World.cell?_spot h1
    simpa [Addr.add] using h
  subst hspot
  have hch : ∀ i, ∃ g : Int × Int × Nat, i < len → W.cell? ⟨b, off + i * 3, none⟩ = some (.int .i64 g.1) ∧ W.cell? ⟨b, off + i * 3 + 1, none⟩ = some (.int .i64 g.2.1) ∧ W.cell? ⟨b, off + i * 3 + 2, none⟩ = some (.int .u32 g.2.2) ∧ g.2.2 < 4294967296 := fun i => by
    by_cases hi : i < len
    · obtain ⟨q0, q1, q2, e0, e1, e2, e3⟩ := hel i hi
      refine ⟨(q0, q1, q2), fun _ => ⟨?_, ?_, ?_, e3⟩⟩
      · rw [← e0, add_none]
      · rw [← e1, add_none, add_none]
      · rw [← e2, add_none, add_none]
    · exact ⟨(0, 0, 0), fun h => absurd h hi⟩
  let g : Nat → Int × Int × Nat := fun i => (hch i).choose
  have hg : ∀ i, i < len → W.cell? ⟨b, off + i * 3, none⟩ = some (.int .i64 (g i).1) ∧ W.cell? ⟨b, off + i * 3 + 1, none⟩ = some (.int .i64 (g i).2.1) ∧ W.cell? ⟨b, off + i * 3 + 2, none⟩ = some (.int .u32 (g i).2.2) ∧ (g i).2.2 < 4294967296 := fun i hi => (hch i).choose_spec hi
  have hxl : ((List.range len).map g).length = len := by simp
  refine ⟨b, off, (List.range len).map g, rfl, hxl, fun x hx => ?_, fun j hj => ?_⟩
  · obtain ⟨i, hi, rfl⟩ := List.mem_map.1 hx
    exact (hg i (List.mem_range.1 hi)).2.2.2
  rw [act3Vals_len, hxl] at hj
  have hw : j / 3 < len := by omega
  have hv := act3Vals_get (xs := (List.range len).map g) (w := j / 3) (by rw [hxl]; exact hw)
  have hgd : ((List.range len).map g).getD (j / 3) (0, 0, 0) = g (j / 3) := by
    rw [List.getD_eq_getElem?_getD, List.getElem?_map, List.getElem?_range hw]; rfl
  rw [hgd] at hv
  have hgj := hg _ hw
  have key : (act3Vals ((List.range len).map g))[j]? = W.cell? ⟨b, off + j, none⟩ := by
    have h3 : j % 3 = 0 ∨ j % 3 = 1 ∨ j % 3 = 2 := by omega
    rcases h3 with e | e | e
    · have : j = j / 3 * 3 + 0 := by omega
      rw [this, hv.1, ← hgj.1]
      congr 2
    · have : j = j / 3 * 3 + 1 := by omega
      rw [this, hv.2.1, ← hgj.2.1]
      congr 2
    · have : j = j / 3 * 3 + 2 := by omega
      rw [this, hv.2.2, ← hgj.2.2.1]
      congr 2
  rw [← key, List.getElem?_eq_getElem]

theorem acts3_of_trod {H : Type} {enc : TypeId × Value → H} {W : World} {base fuel : Nat} {spare : Nat → Bool} {held : Bool} {v : Value} {x : DataW H × List MemPlace} (h : DataW.trod enc Tryd.prog W base spare held fuel 48 [v] = some x) :
    v = .slice none 0 0 ∨ ∃ (a : Addr) (len cap : Nat), v = .slice (some a) len cap ∧ len ≤ cap ∧ ∀ i, i < len → ∃ (q0 q1 : Int) (q2 : Nat), W.cell? (a.add (i * 3)) = some (.int .i64 q0) ∧ W.cell? ((a.add (i * 3)).add 1) = some (.int .i64 q1) ∧ W.cell? ((a.add (i * 3)).add 2) = some (.int .u32 q2) ∧ q2 < 4294967296 := by
  have c56 : Tryd.prog.cellsOf 56 = 3 := by kernel_rfl
  have c3 : Tryd.prog.cellsOf 3 = 1 := by kernel_rfl
  have c52 : Tryd.prog.cellsOf 52 = 1 := by kernel_rfl
  rcases DataW.trod_slice Tryd.underlying48 h with ⟨h0, _⟩ | ⟨a, len, cap, elems, rest, n, _, hv, _, _, hl, _, hlen, hel, _, _⟩
  · left; simpa using h0
  · right
    refine ⟨a, len, cap, by simpa using hv, hl, fun i hi => ?_⟩
    have hy := hel i hi
    rw [List.getElem?_eq_getElem (by omega), Option.bind_eq_some_iff, c56] at hy
    obtain ⟨cs, hcs, hy⟩ := hy
    obtain ⟨_, hcl, hcell⟩ := World.cells?_some hcs
    obtain ⟨y0, y1, y2, n', _, _, t0, t1, t2⟩ := Go.Deep.trod_struct3 Tryd.underlying56 hy
    match cs, hcl with
    | [u0, u1, u2], _ =>
      simp only [c3, c52, List.drop_zero, List.take_succ_cons, List.take_zero, List.drop_succ_cons] at t0 t1 t2
      obtain ⟨q0, e0, _, _⟩ := DataW.trod_int Tryd.underlying3 t0
      obtain ⟨q1, e1, _, _⟩ := DataW.trod_int Tryd.underlying3 t1
      obtain ⟨q2, e2, _, w2⟩ := DataW.trod_int Tryd.underlying52 t2
      have hw2 : IntKind.u32.min ≤ q2 ∧ q2 ≤ IntKind.u32.max := by simpa [Lit.wf] using w2
      have m1 : IntKind.u32.min = 0 := rfl
      have m2 : IntKind.u32.max = 4294967295 := rfl
      obtain ⟨z2, rfl⟩ : ∃ z : Nat, q2 = z := ⟨q2.toNat, by omega⟩
      have hc0 := hcell 0 (by omega)
      have hc1 := hcell 1 (by omega)
      have hc2 := hcell 2 (by omega)
      refine ⟨q0, q1, z2, ?_, ?_, ?_, by omega⟩
      · have : (a.add (i * 3)).add 0 = a.add (i * 3) := by simp [Addr.add]
        rw [this] at hc0
        rw [hc0]
        simp at e0
        simp [e0]
      · rw [hc1]
        simp at e1
        simp [e1]
      · rw [hc2]
        simp at e2
        simp [e2]
end Go.Proofs.YtiecjbgefkelfaaDoor
