/-
  'sluicegatelaw38.DumpReads': for every input the law returns true; each argument reads behind the call as it read before. No condition.
-/
import Derived.Test.YtacldkbigpfamaaRows
import Derived.Test.YtacldkbigpfamaaDumpZ
import Derived.LaidByTextLater
import Derived.SevenTiedAt
import Derived.LaidSub
import Derived.LaidOnce
import Derived.JoinedOf
namespace Go.Proofs.Ytacldkbigpfamaa
open Go.ChangeShapes Go.WideShapes Go.ChangeAt Go.WideMaps Go.WideElems Go.RowKit Go.Ab Go.Words
set_option linter.unusedVariables false

theorem own : ownKnob Try.prog.godebug = none := by kernel_rfl
theorem laidOut : laidOutB Try.prog = true := by kernel_rfl

theorem glob0 (ρ : Ab.Loc) : GlobR Try.prog ρ := fun g hg => by rw [noGlobal] at hg; omega

theorem start0 (W : World) : Sim (fun _ => none) mem0 W :=
  ⟨fun α l h => (by cases h), fun α l h => (by cases h), fun α l B h => (by cases h), fun α β l k _ h => (by cases h), fun α _ => mem0_none α⟩

theorem mem0_ro (α : Nat) : mem0.own α = false := by unfold AMem.own; rw [mem0_none]

theorem ends4 (W : World) (b : ByteArray) : Calls Try.prog 4 #[.string b] W (fun e W' => e = .returned (.bool true) ∧ Below W.heap.size W W') :=
  calls_true (vs := [.string b]) mixed hookOk (reads_run b.data.toList (M := mem0) (Nat.le_refl _) (m := 3000000 + 1) (by omega)) (start0 W) (glob0 _) (VL.cons (.str b) (VL.nil _)) mem0_ro

set_option maxRecDepth 100000 in
theorem dumpReads_lifted0 (os : Os) (started : os.Started) (H : Type) (enc : TypeId × Value → H) :
    ReturnsInHanded {} Try.checked os 4 .any (fun w args => (Rows.dumpReadsSpec.pre enc Try.prog Try.f4 [] false w args ∧ True) ∧ sizedMet enc Try.prog Try.f4 (OpenSpec.ofChange Rows.dumpReadsSpec) false w args)
      (Rows.dumpReadsSpec.post enc Try.prog Try.f4 false true false false) := by
  refine returnsInHanded_of_change_and (C := Try.checked) (X := fun _ _ => True) (fun _ _ _ _ h => h) own started (by kernel_rfl) Try.func4
    (ChangeSpec.witness_shaped (enc := enc) (C := Try.checked) (os := os) (X := fun _ _ => True) false (World.doorLaid Try.prog 400 os) #[.string ⟨#[]⟩] 8 rfl (World.shaped_of_RefB (by kernel_rfl) (by kernel_rfl)) (by kernel_rfl) (by kernel_rfl) (by kernel_rfl) trivial) ?_
  intro W base args ds gs before hval0 hW _ hwt _ _
  have hval : ∀ (j : Nat) t v, Try.f4.params[j]? = some t → args[j]? = some v → Value.okWide Try.prog W .any base t v := hval0
  have hW' := hW
  obtain ⟨p, q, hA0, hV, rfl, hfz, hnd⟩ := hW
  obtain ⟨rfl, rfl⟩ := trodVars_none hV
  rw [List.append_nil] at hW'
  have hAk : DataW.TrodAll enc Try.prog W 0 (fun _ => true) true Try.f4.params.toList args.toList ds p := hA0
  have hA := hAk
  rw [Try.params4] at hA hval
  obtain ⟨v1, d1, rfl, rfl, h1⟩ := trodAll_one hA
  have hcalls : Calls Try.prog 4 #[v1] W (fun e W' => e = .returned (.bool true) ∧ Below W.heap.size W W') := by
    obtain ⟨b, rfl⟩ := okWide_string Try.underlying9 (hval 0 9 v1 rfl rfl)
    exact ends4 W b
  refine hcalls.mono fun e W' ⟨he, hw⟩ => ?_
  subst he
  exact ⟨_, rfl, post_law laidOut (by kernel_rfl) (by kernel_rfl) Try.underlying4 hW' hAk hw rfl rfl rfl rfl⟩

theorem dumpReads_lifted (os : Os) (started : os.Started) (H : Type) (enc : TypeId × Value → H) :
    ReturnsInHanded {} Try.checked os 4 .any (fun w args => Rows.dumpReadsSpec.pre enc Try.prog Try.f4 [] false w args ∧ sizedMet enc Try.prog Try.f4 (OpenSpec.ofChange Rows.dumpReadsSpec) false w args)
      (Rows.dumpReadsSpec.post enc Try.prog Try.f4 false true false false) := by
  have h := dumpReads_lifted0 os started H enc
  simp only [and_true] at h
  exact h

theorem dumpReads_holds : Rows.DumpReadsSaid :=
  OpenClaim.holds_of_wide 4 Try.f4 rfl rfl rfl rfl rfl rfl rfl ⟨rfl, rfl, rfl, rfl, rfl⟩ rfl rfl rfl rfl rfl (by kernel_rfl) Try.func4 (by kernel_rfl)
    (of_decide_eq_true (by kernel_rfl)) (by unfold Func.isWrapper; first | (rw [if_pos (by decide +kernel)]; kernel_rfl) | (rw [if_neg (by decide +kernel)]; exact ⟨rfl, rfl⟩))
    (fun os started H enc _ => dumpReads_lifted os started H enc)
#print axioms dumpReads_holds
end Go.Proofs.Ytacldkbigpfamaa
