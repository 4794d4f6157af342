/-
  A struct of whole numbers that came in by value, opened.
-/
import Derived.Test.YtfpgakjikmakkaaGreatDoorAbDoor
import Derived.Lib.SmallJoins
import Derived.Deep.Fields
namespace Go.Ab
open Go.Deep Go.ChangeMaps Go.ChangeShapes Go.WideShapes Go.ChangeAt Go.RowKit Go.Joins
set_option linter.unusedVariables false
set_option linter.unusedSimpArgs false

def numOf : Value → Int
  | .int _ n => n
  | _ => 0

def allI64 (P : Program) (fs : Array Field) : Bool := fs.toList.all fun f => match P.underlying f.type with
  | some (.int .i64) => true
  | _ => false

theorem allI64_at {P : Program} {fs : Array Field} (h : allI64 P fs = true) : ∀ (i : Nat) (f : Field), fs[i]? = some f → P.underlying f.type = some (.int .i64) := by
  intro i f hi
  have := List.all_eq_true.1 h f (by
    have := Array.mem_of_getElem? hi
    simpa using this)
  split at this
  · assumption
  · cases this

theorem open_ints {H : Type} {enc : TypeId × Value → H} {P : Program} {w : World} {base : Nat} {spare : Nat → Bool} {held : Bool} {r : Reach} {b0 : Nat} {t : TypeId} {fs : Array Field} {v : Value} {d : DataW H} {p : List MemPlace}
    (hs : P.underlying t = some (.struct fs)) (hone : oneCellFields P fs = true) (hC : P.cellsOf t = fs.size) (hI : allI64 P fs = true)
    (hv : Value.okWide P w r b0 t v) (h : DataW.Trod enc P w base spare held t v d p) :
    ∃ ks : List Int, ks.length = fs.size ∧ v = .agg (ks.map (Value.int .i64)).toArray ∧ ∀ k ∈ ks, (Lit.int .i64 k).wf = true := by
  have hi := allI64_at hI
  obtain ⟨cs, rfl, hsz⟩ := okWide_struct hs hv
  obtain ⟨fuel, hf⟩ := h
  have hf : DataW.trod enc P w base spare held fuel t cs.toList = some (d, p) := by simpa [Value.cells] using hf
  obtain ⟨xs, n, _, _, hl, hlen, hx⟩ := DataW.trod_struct hs hf
  have key : ∀ i, i < fs.size → ∃ k, cs.toList[i]? = some (.int .i64 k) ∧ (Lit.int .i64 k).wf = true := fun i hlt => by
    have hfi : fs[i]? = some (fs[i]'hlt) := Array.getElem?_eq_getElem hlt
    obtain ⟨ho, hc⟩ := hone_of hone i _ hfi
    have h1 := hx i _ hfi
    rw [ho, hc] at h1
    obtain ⟨x, hxi⟩ : ∃ x, xs[i]? = some x := ⟨xs[i]'(by omega), List.getElem?_eq_getElem (by omega)⟩
    rw [hxi] at h1
    obtain ⟨k, e1, _, hw⟩ := DataW.trod_int (hi i _ hfi) h1
    refine ⟨k, ?_, hw⟩
    have := congrArg (fun l => l[0]?) e1
    simp only [List.getElem?_take, List.getElem?_drop, Nat.add_zero] at this
    simpa using this
  have hcl : cs.toList.length = fs.size := by simpa [hC] using hsz
  refine ⟨cs.toList.map numOf, by simp [hsz, hC], ?_, ?_⟩
  · congr 1
    apply Array.ext_getElem?
    intro i
    by_cases hlt : i < fs.size
    · obtain ⟨k, hk, _⟩ := key i hlt
      simp only [List.getElem?_toArray, List.getElem?_map]
      rw [hk]
      simpa [numOf] using hk
    · rw [Array.getElem?_eq_none (by rw [hsz, hC]; omega)]
      simp only [List.getElem?_toArray, List.getElem?_map]
      rw [List.getElem?_eq_none (by omega)]; rfl
  · intro k hk
    obtain ⟨u, hu, rfl⟩ := List.mem_map.1 hk
    obtain ⟨i, hlt, he⟩ := List.mem_iff_getElem.1 hu
    obtain ⟨k', hk', hw⟩ := key i (by omega)
    rw [List.getElem?_eq_getElem hlt, he] at hk'
    cases hk'
    exact hw

theorem list8 {α : Type} {l : List α} (h : l.length = 8) : ∃ a b c d e f g i, l = [a, b, c, d, e, f, g, i] := by
  match l, h with
  | [a, b, c, d, e, f, g, i], _ => exact ⟨a, b, c, d, e, f, g, i, rfl⟩
end Go.Ab
