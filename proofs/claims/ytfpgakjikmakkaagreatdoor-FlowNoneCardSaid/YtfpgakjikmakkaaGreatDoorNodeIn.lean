/-
  A node that came in by value: its slices are read-only blocks of the abstract memory.
-/
import Derived.Test.YtfpgakjikmakkaaGreatDoorFnLaw
import Derived.Test.YtfpgakjikmakkaaGreatDoorOpens
import Derived.ChangeMaps5
import Derived.Lib.SmallJoins
namespace Go.Proofs.YtfpgakjikmakkaaGreatDoor
open Go.Deep Go.ChangeMaps Go.ChangeShapes Go.WideShapes Go.ChangeAt Go.WideMaps Go.WideElems Go.RowKit Go.Ab Go.Joins
set_option linter.unusedVariables false
set_option linter.unusedSimpArgs false
set_option maxRecDepth 100000

theorem array5 {α : Type} {cs : Array α} (h : cs.size = 5) : ∃ c0 c1 c2 c3 c4, cs = #[c0, c1, c2, c3, c4] := by
  obtain ⟨l⟩ := cs
  match l, h with
  | [c0, c1, c2, c3, c4], _ => exact ⟨c0, c1, c2, c3, c4, rfl⟩

section
variable {H : Type} {enc : TypeId × Value → H} {W : World} {base : Nat} {spare : Nat → Bool} {held : Bool}

theorem open_agg5 {P : Program} {r : Reach} {b0 : Nat} {t : TypeId} {f0 f1 f2 f3 f4 : Field} {v : Value} {d : DataW H} {p : List MemPlace} (hs : P.underlying t = some (.struct #[f0, f1, f2, f3, f4])) (hone : oneCellFields P #[f0, f1, f2, f3, f4] = true) (hC : P.cellsOf t = 5)
    (hv : Value.okWide P W r b0 t v) (h : DataW.Trod enc P W base spare held t v d p) :
    ∃ (v0 v1 v2 v3 v4 : Value) (y0 y1 y2 y3 y4 : DataW H × List MemPlace) (n : Nat), v = .agg #[v0, v1, v2, v3, v4] ∧
      DataW.trod enc P W base spare held n f0.type [v0] = some y0 ∧ DataW.trod enc P W base spare held n f1.type [v1] = some y1 ∧ DataW.trod enc P W base spare held n f2.type [v2] = some y2 ∧ DataW.trod enc P W base spare held n f3.type [v3] = some y3 ∧ DataW.trod enc P W base spare held n f4.type [v4] = some y4 := by
  obtain ⟨cs, rfl, hsz⟩ := okWide_struct hs hv
  obtain ⟨c0, c1, c2, c3, c4, rfl⟩ := array5 (hsz.trans hC)
  obtain ⟨fuel, hf⟩ := h
  obtain ⟨xs, n, _, _, hl, hlen, hx⟩ := DataW.trod_struct hs hf
  match xs, hlen with
  | [y0, y1, y2, y3, y4], _ =>
    obtain ⟨o0, k0⟩ := hone_of hone 0 f0 rfl
    obtain ⟨o1, k1⟩ := hone_of hone 1 f1 rfl
    obtain ⟨o2, k2⟩ := hone_of hone 2 f2 rfl
    obtain ⟨o3, k3⟩ := hone_of hone 3 f3 rfl
    obtain ⟨o4, k4⟩ := hone_of hone 4 f4 rfl
    exact ⟨c0, c1, c2, c3, c4, y0, y1, y2, y3, y4, n, rfl, by simpa [Value.cells, o0, k0] using hx 0 f0 rfl, by simpa [Value.cells, o1, k1] using hx 1 f1 rfl, by simpa [Value.cells, o2, k2] using hx 2 f2 rfl, by simpa [Value.cells, o3, k3] using hx 3 f3 rfl, by simpa [Value.cells, o4, k4] using hx 4 f4 rfl⟩

theorem str_elt {n : Nat} {cs : List Value} {y : DataW H × List MemPlace} (hl : cs.length = 1) (h : DataW.trod enc Tryz.prog W base spare held n 9 cs = some y) : ∃ x, cs = strE.ev x := by
  obtain ⟨s, e, _, _⟩ := DataW.trod_string Tryz.underlying9 h
  exact ⟨s.data.toList, by rw [e]; simp [strE]⟩
theorem u32_elt {n : Nat} {cs : List Value} {y : DataW H × List MemPlace} (hl : cs.length = 1) (h : DataW.trod enc Tryz.prog W base spare held n 24 cs = some y) : ∃ x, cs = u32E.ev x := by
  obtain ⟨k, e, _, _⟩ := DataW.trod_int Tryz.underlying24 h
  exact ⟨k, by rw [e]; rfl⟩
theorem pair_elt {n : Nat} {cs : List Value} {y : DataW H × List MemPlace} (hl : cs.length = 2) (h : DataW.trod enc Tryz.prog W base spare held n 64 cs = some y) : ∃ x, cs = pairE.ev x := by
  obtain ⟨y0, y1, n', hxy, _, t0, t1⟩ := trod_struct2 Tryz.underlying64 h
  match cs, hl with
  | [u0, u1], _ =>
    have c9 : Tryz.prog.cellsOf 9 = 1 := by kernel_rfl
    simp only [c9, List.drop_zero, List.take_succ_cons, List.take_zero, List.drop_succ_cons] at t0 t1
    obtain ⟨q0, e0, _, _⟩ := DataW.trod_string Tryz.underlying9 t0
    obtain ⟨q1, e1, _, _⟩ := DataW.trod_string Tryz.underlying9 t1
    simp only [List.cons.injEq, and_true] at e0 e1
    exact ⟨(q0.data.toList, q1.data.toList), by rw [e0, e1]; simp [pairE]⟩
theorem msg_elt {n : Nat} {cs : List Value} {y : DataW H × List MemPlace} (hl : cs.length = 3) (h : DataW.trod enc Tryz.prog W base spare held n 62 cs = some y) : ∃ x, cs = msgE.ev x := by
  obtain ⟨y0, y1, y2, n', hxy, _, t0, t1, t2⟩ := trod_struct3 Tryz.underlying62 h
  match cs, hl with
  | [u0, u1, u2], _ =>
    have c9 : Tryz.prog.cellsOf 9 = 1 := by kernel_rfl
    have c4 : Tryz.prog.cellsOf 4 = 1 := by kernel_rfl
    simp only [c9, c4, List.drop_zero, List.take_succ_cons, List.take_zero, List.drop_succ_cons] at t0 t1 t2
    obtain ⟨q0, e0, _, _⟩ := DataW.trod_string Tryz.underlying9 t0
    obtain ⟨q1, e1, _⟩ := DataW.trod_bool Tryz.underlying4 t1
    obtain ⟨q2, e2, _, _⟩ := DataW.trod_string Tryz.underlying9 t2
    simp only [List.cons.injEq, and_true] at e0 e1 e2
    exact ⟨(q0.data.toList, q1, q2.data.toList), by rw [e0, e1, e2]; simp [msgE]⟩

/-- a node that came in -/
theorem node_in {r : Reach} {b0 : Nat} {v : Value} {d : DataW H} {p : List MemPlace} (hv : Value.okWide Tryz.prog W r b0 30 v) (h : DataW.Trod enc Tryz.prog W base spare held 30 v d p) {ρ : Ab.Loc} {M : AMem} (s : Sim ρ M W) (hro : ∀ α, M.own α = false) :
    ∃ (lv : Int) (ka pa ba ra : Option (Nat × Nat)) (kl pl bl rl : Nat) (kc pc bc rc : Option Nat) (ps : List Txt) (xs : List (Txt × Bool × Txt)) (ys : List (Txt × Txt)) (ρ' : Ab.Loc) (M' : AMem),
      Sim ρ' M' W ∧ (∀ α, M'.own α = false) ∧ ρ.le ρ' ∧ VR ρ' (.agg (nodeA lv ka pa ba ra kl pl bl rl kc pc bc rc)) v ∧ strE.In M' pa pl ps ∧ msgE.In M' ba bl xs ∧ pairE.In M' ra rl ys ∧ M.next ≤ M'.next ∧ ∀ t, t < M.next → M'.get t = M.get t := by
  obtain ⟨v0, v1, v2, v3, v4, y0, y1, y2, y3, y4, n, rfl, h0, h1, h2, h3, h4⟩ := open_agg5 Tryz.underlying30 (by kernel_rfl) (by kernel_rfl) hv h
  obtain ⟨lv, e0, _, _⟩ := DataW.trod_int Tryz.underlying3 h0
  simp only [List.cons.injEq, and_true] at e0
  subst e0
  obtain ⟨ρ1, M1, ka, kl, kc, zs, s1, o1, q1, f1, i1, n1, g1⟩ := u32E.slice_in s hro (by decide) (slice_of_trod u32E Tryz.underlying25 (by kernel_rfl) u32_elt h1)
  obtain ⟨ρ2, M2, pa, pl, pc, ps, s2, o2, q2, f2, i2, n2, g2⟩ := strE.slice_in s1 o1 (by decide) (slice_of_trod strE Tryz.underlying26 (by kernel_rfl) str_elt h2)
  obtain ⟨ρ3, M3, ba, bl, bc, xs, s3, o3, q3, f3, i3, n3, g3⟩ := msgE.slice_in s2 o2 (by decide) (slice_of_trod msgE Tryz.underlying27 (by kernel_rfl) msg_elt h3)
  obtain ⟨ρ4, M4, ra, rl, rc, ys, s4, o4, q4, f4, i4, n4, g4⟩ := pairE.slice_in s3 o3 (by decide) (slice_of_trod pairE Tryz.underlying28 (by kernel_rfl) pair_elt h4)
  have p34 : ρ3.le ρ4 := q4
  have p24 : ρ2.le ρ4 := fun a l e => q4 _ _ (q3 _ _ e)
  have p14 : ρ1.le ρ4 := fun a l e => p24 _ _ (q2 _ _ e)
  refine ⟨lv, ka, pa, ba, ra, kl, pl, bl, rl, kc, pc, bc, rc, ps, xs, ys, ρ4, M4, s4, o4, fun a l e => p14 _ _ (q1 _ _ e), ?_, Elt.In.moved _ (Elt.In.moved _ i2 n3 g3) n4 g4, Elt.In.moved _ i3 n4 g4, i4, by omega, fun t ht => by rw [g4 t (by omega), g3 t (by omega), g2 t (by omega), g1 t ht]⟩
  exact (VL.cons (.int _ _) (VL.cons (f1.mono p14) (VL.cons (f2.mono p24) (VL.cons (f3.mono p34) (VL.cons f4 (VL.nil _)))))).agg
end
end Go.Proofs.YtfpgakjikmakkaaGreatDoor
