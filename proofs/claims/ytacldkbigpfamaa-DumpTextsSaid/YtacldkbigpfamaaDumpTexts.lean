/-
  'sluicegatelaw38.DumpTexts': for every input the law returns true; each argument reads behind the call as it read before. No condition.
-/
import Derived.Test.YtacldkbigpfamaaRows
import Derived.Test.YtacldkbigpfamaaDumpX
import Derived.LaidByTextLater
import Derived.SevenTiedAt
import Derived.LaidSub
import Derived.LaidOnce
import Derived.JoinedOf
namespace Go.Proofs.Ytacldkbigpfamaa
open Go.ChangeShapes Go.WideShapes Go.ChangeAt Go.WideMaps Go.WideElems Go.RowKit Go.Ab Go.Words
set_option linter.unusedVariables false

theorem own : ownKnob Try.prog.godebug = none := by kernel_rfl
theorem laidOut : laidOutB Try.prog = true := by kernel_rfl

theorem glob0 (ρ : Ab.Loc) : GlobR Try.prog ρ := fun g hg => by rw [noGlobal] at hg; omega

theorem start0 (W : World) : Sim (fun _ => none) mem0 W :=
  ⟨fun α l h => (by cases h), fun α l h => (by cases h), fun α l B h => (by cases h), fun α β l k _ h => (by cases h), fun α _ => mem0_none α⟩

theorem mem0_ro (α : Nat) : mem0.own α = false := by unfold AMem.own; rw [mem0_none]

theorem memE_ro (α : Nat) : (mem0.new (.ro [])).own α = false := by
  unfold AMem.own
  rw [AMem.get_new]
  by_cases q : α = mem0.next
  · rw [if_pos q]; rfl
  · rw [if_neg q, mem0_none]

/-! ### a slice of pairs of texts -/
def pairVals : List (Bs × Bs) → List Value
  | [] => []
  | p :: ps => .string ⟨p.1.toArray⟩ :: .string ⟨p.2.toArray⟩ :: pairVals ps

theorem pairVals_get : ∀ {xs : List (Bs × Bs)} {w : Nat} (h : w < xs.length), (pairVals xs)[w * 2 + 0]? = some (.string ⟨(xs[w]).1.toArray⟩) ∧ (pairVals xs)[w * 2 + 1]? = some (.string ⟨(xs[w]).2.toArray⟩)
  | [], w, h => absurd h (Nat.not_lt_zero _)
  | x :: xs, 0, _ => ⟨rfl, rfl⟩
  | x :: xs, w + 1, h => by
    have := pairVals_get (xs := xs) (w := w) (by simpa using h)
    have e : ∀ b, (w + 1) * 2 + b = (w * 2 + b) + 1 + 1 := fun b => by omega
    show (Value.string _ :: Value.string _ :: pairVals xs)[_]? = _ ∧ (Value.string _ :: Value.string _ :: pairVals xs)[_]? = _
    rw [e, e, List.getElem?_cons_succ, List.getElem?_cons_succ, List.getElem?_cons_succ, List.getElem?_cons_succ]
    exact this

theorem pairVals_len : ∀ xs : List (Bs × Bs), (pairVals xs).length = xs.length * 2
  | [] => rfl
  | x :: xs => by
    show (pairVals xs).length + 1 + 1 = _
    rw [pairVals_len xs, List.length_cons]; omega

theorem pairVals_VL (ρ : Ab.Loc) : ∀ xs : List (Bs × Bs), VL ρ (pairCells xs) (pairVals xs)
  | [] => VL.nil ρ
  | x :: xs => VL.cons (VR.str_mk _) (VL.cons (VR.str_mk _) (pairVals_VL ρ xs))

/-- what lies at a slice of pairs, and how long its texts are -/
def PairsAt (W : World) (a : Addr) (len : Nat) : Prop := ∀ i, i < len → ∃ s t : Bs, W.cell? (a.add (i * 2)) = some (.string ⟨s.toArray⟩) ∧ W.cell? ((a.add (i * 2)).add 1) = some (.string ⟨t.toArray⟩) ∧ s.length ≤ 140737488355328 ∧ t.length ≤ 140737488355328

theorem pairs_at {W : World} {a : Addr} {len : Nat} (h0 : 0 < len) (hel : PairsAt W a len) :
    ∃ (b off : Nat) (xs : List (Bs × Bs)), a = ⟨b, off, none⟩ ∧ xs.length = len ∧ (∀ p ∈ xs, p.1.length ≤ 140737488355328 ∧ p.2.length ≤ 140737488355328) ∧ ∀ j (hj : j < (pairVals xs).length), W.cell? ⟨b, off + j, none⟩ = some (pairVals xs)[j] := by
  obtain ⟨b, off, spot⟩ := a
  obtain ⟨_, _, h1, _⟩ := hel 0 h0
  have hspot : spot = none := by
    have h := World.cell?_spot h1
    simpa [Addr.add] using h
  subst hspot
  let g : Nat → Bs × Bs := fun i => if h : i < len then ((hel i h).choose, (hel i h).choose_spec.choose) else ([], [])
  have hg : ∀ i, i < len → W.cell? ⟨b, off + i * 2, none⟩ = some (.string ⟨(g i).1.toArray⟩) ∧ W.cell? ⟨b, off + i * 2 + 1, none⟩ = some (.string ⟨(g i).2.toArray⟩) ∧ (g i).1.length ≤ 140737488355328 ∧ (g i).2.length ≤ 140737488355328 := fun i hi => by
    have hs := (hel i hi).choose_spec.choose_spec
    have e : g i = ((hel i hi).choose, (hel i hi).choose_spec.choose) := by simp only [g, dif_pos hi]
    rw [e]
    refine ⟨?_, ?_, hs.2.2⟩
    · rw [← hs.1, add_none]
    · rw [← hs.2.1, add_none, add_none]
  have hxl : ((List.range len).map g).length = len := by simp
  refine ⟨b, off, (List.range len).map g, rfl, hxl, fun p hp => ?_, fun j hj => ?_⟩
  · rw [List.mem_map] at hp
    obtain ⟨i, hi, rfl⟩ := hp
    exact (hg i (List.mem_range.1 hi)).2.2
  rw [pairVals_len, hxl] at hj
  have hw : j / 2 < len := by omega
  have hv := pairVals_get (xs := (List.range len).map g) (w := j / 2) (by rw [hxl]; exact hw)
  have hgd : ((List.range len).map g)[j / 2]'(by rw [hxl]; exact hw) = g (j / 2) := by simp
  rw [hgd] at hv
  have hgj := hg _ hw
  have key : (pairVals ((List.range len).map g))[j]? = W.cell? ⟨b, off + j, none⟩ := by
    rcases Nat.mod_two_eq_zero_or_one j with e | e
    · have : j = j / 2 * 2 + 0 := by omega
      rw [this, hv.1, ← hgj.1]
      congr 2
    · have : j = j / 2 * 2 + 1 := by omega
      rw [this, hv.2, ← hgj.2.1]
      congr 2
  rw [← key, List.getElem?_eq_getElem]

theorem weightsAll_mem {H : Type} {P : Program} {e : TypeId} : ∀ {l : List (DataW H)} {d : DataW H}, d ∈ l → ∀ n ∈ d.weights P e, n ∈ DataW.weightsAll P e l
  | x :: r, d, hd, n, hn => by
    unfold DataW.weightsAll
    rcases List.mem_cons.1 hd with rfl | hd
    · exact List.mem_append_left _ hn
    · exact List.mem_append_right _ (weightsAll_mem hd n hn)

theorem pairs_of_trod {H : Type} {enc : TypeId × Value → H} {W : World} {base fuel : Nat} {spare : Nat → Bool} {held : Bool} {v : Value} {x : DataW H × List MemPlace} (h : DataW.trod enc Try.prog W base spare held fuel 22 [v] = some x)
    (hz : ∀ n ∈ x.1.weights Try.prog 22, n ≤ reachBytes) :
    v = .slice none 0 0 ∨ ∃ (a : Addr) (len cap : Nat), v = .slice (some a) len cap ∧ len ≤ cap ∧ PairsAt W a len := by
  have c33 : Try.prog.cellsOf 33 = 2 := by kernel_rfl
  have c9 : Try.prog.cellsOf 9 = 1 := by kernel_rfl
  rcases DataW.trod_slice Try.underlying22 h with ⟨h0, _⟩ | ⟨a, len, cap, elems, rest, n, _, hv, hx, _, hl, _, hlen, hel, _, _⟩
  · left; simpa using h0
  · right
    refine ⟨a, len, cap, by simpa using hv, hl, fun i hi => ?_⟩
    have hy := hel i hi
    rw [List.getElem?_eq_getElem (by omega), Option.bind_eq_some_iff, c33] at hy
    obtain ⟨cs, hcs, hy⟩ := hy
    obtain ⟨_, hcl, hcell⟩ := World.cells?_some hcs
    obtain ⟨y0, y1, n', hxy, _, t0, t1⟩ := trod_struct2 Try.underlying33 hy
    have hmem : (DataW.agg [y0.1, y1.1] : DataW H) ∈ elems.map (·.1) := by
      rw [List.mem_map]
      exact ⟨elems[i], List.getElem_mem _, by rw [hxy]⟩
    have hw : ∀ k ∈ (DataW.agg [y0.1, y1.1] : DataW H).weights Try.prog 33, k ≤ reachBytes := fun k hk => by
      refine hz k ?_
      rw [hx]
      unfold DataW.weights
      rw [Try.underlying22]
      exact List.mem_cons_of_mem _ (List.mem_append_left _ (weightsAll_mem hmem k hk))
    match cs, hcl with
    | [u0, u1], _ =>
      simp only [c9, List.drop_zero, List.take_succ_cons, List.take_zero, List.drop_succ_cons] at t0 t1
      obtain ⟨q0, e0, f0, _⟩ := DataW.trod_string Try.underlying9 t0
      obtain ⟨q1, e1, f1, _⟩ := DataW.trod_string Try.underlying9 t1
      have hc0 := hcell 0 (by omega)
      have hc1 := hcell 1 (by omega)
      rw [f0, f1] at hw
      have hr : reachBytes ≤ 140737488355328 := by decide
      refine ⟨q0.data.toList, q1.data.toList, ?_, ?_, ?_, ?_⟩
      · have : (a.add (i * 2)).add 0 = a.add (i * 2) := by simp [Addr.add]
        rw [this] at hc0
        rw [hc0]
        simp at e0
        simp [e0]
      · rw [hc1]
        simp at e1
        simp [e1]
      · refine Nat.le_trans (hw _ ?_) hr
        unfold DataW.weights
        rw [Try.underlying33]
        simp [DataW.weightsEach, DataW.weights]
      · refine Nat.le_trans (hw _ ?_) hr
        unfold DataW.weights
        rw [Try.underlying33]
        simp [DataW.weightsEach, DataW.weights]

abbrev Ends3 (W : World) (v1 : Value) : Prop := Calls Try.prog 3 #[v1] W (fun e W' => e = .returned (.bool true) ∧ Below W.heap.size W W')

theorem ends3_of {W : World} {v1 : Value} {s : Option (Nat × Nat)} {l : Nat} {c : Option Nat} {M : AMem} {ρ : Ab.Loc} (hs : Sim ρ M W) (ho : ∀ α, M.own α = false) (hv : VR ρ (.slice s l c) v1)
    (ht : isT (call (3000000 + 1) 3 [.slice s l c] M) = true) : Ends3 W v1 :=
  calls_true (vs := [v1]) mixed hookOk ht hs (glob0 ρ) (VL.cons hv (VL.nil _)) ho

theorem ends3_nil (W : World) : Ends3 W (.slice none 0 0) :=
  ends3_of ((start0 W).more (.ro [])) memE_ro .slnil (texts_run (sc := some 0) (ps := []) ⟨rfl, .inl rfl⟩ (fun p hp => by cases hp) (Nat.le_succ _) (by omega))

theorem ends3_zero (W : World) (a : Addr) (cap : Nat) : Ends3 W (.slice (some a) 0 cap) :=
  ends3_of ((start0 W).more (.ro [])) memE_ro (.sl0 (0, 0) none a cap (.inl ⟨rfl, rfl⟩)) (texts_run (ps := []) ⟨rfl, .inl rfl⟩ (fun p hp => by cases hp) (Nat.le_succ _) (by omega))

theorem ends3_some {W : World} {a : Addr} {len cap : Nat} (h0 : 0 < len) (hlc : len ≤ cap) (hel : PairsAt W a len) : Ends3 W (.slice (some a) len cap) := by
  obtain ⟨b, off, xs, rfl, hlx, hsz, hat⟩ := pairs_at h0 hel
  obtain ⟨s1, s2, s3⟩ := (start0 W).addRo mem0_ro (b := b) (off := off) (pairVals_VL _ xs) (by rw [pairVals_len]; omega) hat
  have hone : (mem0.new (.ro (pairCells xs))).row 1 = some (pairCells xs) := row_ro (by rw [AMem.get_new, if_pos (show 1 = mem0.next from rfl)])
  refine ends3_of s1 s2 (.sl 1 0 len (some cap) ⟨b, off, 0, 0⟩ cap ?_ hlc (.inl rfl)) (texts_run (ps := xs) ⟨hlx.symm, .inr ⟨1, rfl, Nat.lt_succ_self _, hone⟩⟩ hsz (Nat.le_succ _) (by omega))
  exact Loc.upd_same _ _ _

set_option maxRecDepth 100000 in
theorem dumpTexts_lifted0 (os : Os) (started : os.Started) (H : Type) (enc : TypeId × Value → H) :
    ReturnsInHanded {} Try.checked os 3 .any (fun w args => (Rows.dumpTextsSpec.pre enc Try.prog Try.f3 [] false w args ∧ True) ∧ sizedMet enc Try.prog Try.f3 (OpenSpec.ofChange Rows.dumpTextsSpec) false w args)
      (Rows.dumpTextsSpec.post enc Try.prog Try.f3 false true false false) := by
  refine returnsInHanded_of_change_and (C := Try.checked) (X := fun _ _ => True) (fun _ _ _ _ h => h) own started (by kernel_rfl) Try.func3
    (ChangeSpec.witness_shaped (enc := enc) (C := Try.checked) (os := os) (X := fun _ _ => True) false (World.doorLaid Try.prog 400 os) #[.slice none 0 0] 8 rfl (World.shaped_of_RefB (by kernel_rfl) (by kernel_rfl)) (by kernel_rfl) (by kernel_rfl) (by kernel_rfl) trivial) ?_
  intro W base args ds gs before hval0 hW _ hwt _ _
  have hval : ∀ (j : Nat) t v, Try.f3.params[j]? = some t → args[j]? = some v → Value.okWide Try.prog W .any base t v := hval0
  have hW' := hW
  obtain ⟨p, q, hA0, hV, rfl, hfz, hnd⟩ := hW
  obtain ⟨rfl, rfl⟩ := trodVars_none hV
  rw [List.append_nil] at hW'
  have hAk : DataW.TrodAll enc Try.prog W 0 (fun _ => true) true Try.f3.params.toList args.toList ds p := hA0
  have hA := hAk
  rw [Try.params3] at hA hval
  obtain ⟨v1, d1, rfl, rfl, h1⟩ := trodAll_one hA
  have hcalls : Ends3 W v1 := by
    obtain ⟨a1, len1, cap1, rfl⟩ := okWide_slice Try.underlying22 (hval 0 22 v1 rfl rfl)
    obtain ⟨fuel, h1⟩ := h1
    have h1' : DataW.trod enc Try.prog W 0 (fun _ => true) true fuel 22 [.slice a1 len1 cap1] = some (d1, p) := h1
    have hz : ∀ n ∈ d1.weights Try.prog 22, n ≤ reachBytes := fun n hn => by
      have := List.all_eq_true.1 hwt n (by
        show n ∈ DataW.weightsEach Try.prog (Try.f3.params.toList ++ _) ([d1] ++ [])
        rw [Try.params3]
        unfold DataW.weightsEach
        exact List.mem_append_left _ hn)
      simpa using this
    rcases pairs_of_trod h1' hz with hc | ⟨a, len, cap, hc, hlc, hel⟩
    · rw [hc]; exact ends3_nil W
    · rw [hc]
      by_cases hz : len = 0
      · subst hz; exact ends3_zero W a cap
      · exact ends3_some (by omega) hlc hel
  refine hcalls.mono fun e W' ⟨he, hw⟩ => ?_
  subst he
  exact ⟨_, rfl, post_law laidOut (by kernel_rfl) (by kernel_rfl) Try.underlying4 hW' hAk hw rfl rfl rfl rfl⟩

theorem dumpTexts_lifted (os : Os) (started : os.Started) (H : Type) (enc : TypeId × Value → H) :
    ReturnsInHanded {} Try.checked os 3 .any (fun w args => Rows.dumpTextsSpec.pre enc Try.prog Try.f3 [] false w args ∧ sizedMet enc Try.prog Try.f3 (OpenSpec.ofChange Rows.dumpTextsSpec) false w args)
      (Rows.dumpTextsSpec.post enc Try.prog Try.f3 false true false false) := by
  have h := dumpTexts_lifted0 os started H enc
  simp only [and_true] at h
  exact h

theorem dumpTexts_holds : Rows.DumpTextsSaid :=
  OpenClaim.holds_of_wide 3 Try.f3 rfl rfl rfl rfl rfl rfl rfl ⟨rfl, rfl, rfl, rfl, rfl⟩ rfl rfl rfl rfl rfl (by kernel_rfl) Try.func3 (by kernel_rfl)
    (of_decide_eq_true (by kernel_rfl)) (by unfold Func.isWrapper; first | (rw [if_pos (by decide +kernel)]; kernel_rfl) | (rw [if_neg (by decide +kernel)]; exact ⟨rfl, rfl⟩))
    (fun os started H enc _ => dumpTexts_lifted os started H enc)
#print axioms dumpTexts_holds
end Go.Proofs.Ytacldkbigpfamaa
