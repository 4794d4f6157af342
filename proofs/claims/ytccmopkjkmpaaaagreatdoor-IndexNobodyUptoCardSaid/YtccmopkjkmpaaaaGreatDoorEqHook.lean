/-
  slices.Equal of bytes, told of the abstract memory: a hook of the evaluator. The equations are printed by wip/tool/gen4.lean.
-/
import Derived.Test.YtccmopkjkmpaaaaGreatDoorSortHook
namespace Go.Proofs.YtccmopkjkmpaaaaGreatDoor
open Go Go.Ab Go.Proofs
set_option linter.unusedVariables false
set_option linter.unusedSimpArgs false
set_option maxRecDepth 100000

theorem equal_eq (H : Hook) (n : Nat) (s u : Option (Nat × Nat)) (l m : Nat) (c d : Option Nat) (M : AMem) : run Tryz.prog H Tryz.f190 n [.slice s l c, .slice u m d] M =
  ifB (!eqI (↑l : Int) (↑m : Int)) (some (AV.bool false, M)) (runLoop Tryz.prog H Tryz.f190 0 [0, 1, 4, 12, 13] n n (mkFr [(0, AV.slice s l c), (1, AV.slice u m d), (4, AV.bool false), (12, AV.int IntKind.i64 (↑l : Int)), (13, AV.int IntKind.i64 0)]) M (afterLoop Tryz.prog H Tryz.f190 0 n)) := by kernel_rfl

theorem equal_body {β : Type} (H : Hook) (s u : Option (Nat × Nat)) (l m : Nat) (c d : Option Nat) (r : Bool) (x i : Int) (n : Nat) (M : AMem) (k : AExit → Fr → AMem → Option β) : runBody Tryz.prog H Tryz.f190 0 [0, 1, 4, 12, 13] n (mkFr [(0, .slice s l c), (1, .slice u m d), (4, .bool r), (12, .int .i64 x), (13, .int .i64 i)]) M k =
  ifB (ltI i x) (bindO (needB (decide (0 ≤ i) && decide (i < (↑l : Int))) (bindO s fun a => some (AV.ptr (some (a.fst, a.snd + i.toNat * 1))))) fun v => bindO (asPtr v fun a => bindO a fun p => bindO (bindO (M.row p.fst) fun a => a[p.snd]?) fun v => Ab.asInt IntKind.u8 v fun n => some (AV.int IntKind.u8 n)) fun v => Ab.asInt IntKind.u8 v fun n => bindO (needB (decide (0 ≤ i) && decide (i < (↑m : Int))) (bindO u fun a => some (AV.ptr (some (a.fst, a.snd + i.toNat * 1))))) fun v => bindO (asPtr v fun a => bindO a fun p => bindO (bindO (M.row p.fst) fun a => a[p.snd]?) fun v => Ab.asInt IntKind.u8 v fun n => some (AV.int IntKind.u8 n)) fun v => Ab.asInt IntKind.u8 v fun n_1 => ifB (!eqI n n_1) (k AExit.ret (mkFr [(0, AV.slice s l c), (1, AV.slice u m d), (4, AV.bool false), (12, AV.int IntKind.i64 x), (13, AV.int IntKind.i64 i)]) M) (forceI (IntKind.i64.wrap (i + 1)) fun n => k AExit.normal (mkFr [(0, AV.slice s l c), (1, AV.slice u m d), (4, AV.bool r), (12, AV.int IntKind.i64 x), (13, AV.int IntKind.i64 n)]) M)) (k (AExit.exit 0) (mkFr [(0, AV.slice s l c), (1, AV.slice u m d), (4, AV.bool r), (12, AV.int IntKind.i64 x), (13, AV.int IntKind.i64 i)]) M) := by kernel_rfl

theorem equal_end0 (H : Hook) (s u : Option (Nat × Nat)) (l m : Nat) (c d : Option Nat) (r : Bool) (x i : Int) (n : Nat) (M : AMem) : afterLoop Tryz.prog H Tryz.f190 0 n (.exit 0) (mkFr [(0, .slice s l c), (1, .slice u m d), (4, .bool r), (12, .int .i64 x), (13, .int .i64 i)]) M =
  some (AV.bool true, M) := by kernel_rfl

theorem equal_ret (H : Hook) (s u : Option (Nat × Nat)) (l m : Nat) (c d : Option Nat) (r : Bool) (x i : Int) (n : Nat) (M : AMem) : afterLoop Tryz.prog H Tryz.f190 0 n .ret (mkFr [(0, .slice s l c), (1, .slice u m d), (4, .bool r), (12, .int .i64 x), (13, .int .i64 i)]) M =
  some (AV.bool r, M) := by kernel_rfl

/-- Are the first n cells bytes, and the same ones? none: some are no bytes. -/
def eqU : Nat → List AV → List AV → Bool → Option Bool
  | 0, _, _, r => some r
  | n + 1, .int .u8 a :: x, .int .u8 b :: y, r => (match eqI a b with
    | true => eqU n x y r
    | false => eqU n x y false)
  | _ + 1, _, _, _ => none

theorem eqU_false : ∀ (n : Nat) (x y : List AV) (r : Bool), eqU n x y false = some r → r = false := by
  intro n
  induction n with
  | zero => intro x y r h; simp only [eqU, Option.some.injEq] at h; exact h.symm
  | succ n ih =>
    intro x y r h
    unfold eqU at h
    split at h
    · rename_i e; omega
    · rename_i k a X b Y e
      obtain rfl : n = k := by omega
      split at h
      · exact ih _ _ _ h
      · exact ih _ _ _ h
    · cases h

theorem eq_idx (a b : Nat) : eqI (a : Int) (b : Int) = decide (a = b) := by
  rw [Bool.eq_iff_iff]
  unfold eqI
  simp

theorem lt_idx (a b : Nat) : ltI (a : Int) (b : Int) = decide (a < b) := by
  rw [Bool.eq_iff_iff]
  unfold ltI
  simp

theorem eq_loop {H : Hook} {a b o p l m : Nat} {c d : Option Nat} {M : AMem} {cs ds : List AV} (ha : M.row a = some cs) (hb : M.row b = some ds) (hl : l < 9223372036854775807) {r : Bool} : ∀ (k i j : Nat), i + k = l → k < j → eqU k (cs.drop (o + i)) (ds.drop (p + i)) true = some r →
    runLoop Tryz.prog H Tryz.f190 0 [0, 1, 4, 12, 13] m j (mkFr [(0, .slice (some (a, o)) l c), (1, .slice (some (b, p)) l d), (4, .bool false), (12, .int .i64 (l : Int)), (13, .int .i64 (i : Int))]) M (afterLoop Tryz.prog H Tryz.f190 0 m) = some (.bool r, M) := by
  intro k
  induction k with
  | zero =>
    intro i j hi hj hq
    obtain ⟨j, rfl⟩ : ∃ q, j = q + 1 := ⟨j - 1, by omega⟩
    simp only [eqU, Option.some.injEq] at hq
    subst hq
    rw [runLoop_succ, equal_body, lt_idx, decide_eq_false (by omega), iF, onward_exit, equal_end0]
  | succ k ih =>
    intro i j hi hj hq
    obtain ⟨j, rfl⟩ : ∃ q, j = q + 1 := ⟨j - 1, by omega⟩
    unfold eqU at hq
    split at hq
    · rename_i e; omega
    · rename_i k' x X y Y e ex ey
      obtain rfl : k = k' := by omega
      have hx : cs[o + i]? = some (.int .u8 x) := by
        have := congrArg (fun q => q[0]?) ex
        simpa using this
      have hy : ds[p + i]? = some (.int .u8 y) := by
        have := congrArg (fun q => q[0]?) ey
        simpa using this
      have hX : X = cs.drop (o + (i + 1)) := by
        have := congrArg List.tail ex
        simpa [List.tail_drop, Nat.add_assoc] using this.symm
      have hY : Y = ds.drop (p + (i + 1)) := by
        have := congrArg List.tail ey
        simpa [List.tail_drop, Nat.add_assoc] using this.symm
      subst hX; subst hY
      rw [runLoop_succ, equal_body, lt_idx, decide_eq_true (by omega), iT]
      have d0 : decide ((0 : Int) ≤ (i : Int)) = true := decide_eq_true (by omega)
      have d1 : decide ((i : Int) < (l : Int)) = true := decide_eq_true (by omega)
      simp only [d0, d1, Bool.and_self, nT, bO, aP, ha, hb, Int.toNat_natCast, Nat.mul_one, hx, hy, aI]
      cases he : eqI x y with
      | true =>
        rw [he] at hq
        have := ih (i + 1) j (by omega) (by omega) hq
        simp only [Bool.not_true, iF, forceI_eq]
        rw [show IntKind.i64.wrap ((i : Int) + 1) = ((i + 1 : Nat) : Int) from by
          rw [wrap_i64 (by omega) (by omega)]; omega]
        rw [onward_normal]
        exact this
      | false =>
        rw [he] at hq
        have := eqU_false _ _ _ _ hq
        subst this
        simp only [Bool.not_false, iT, onward_ret, equal_ret]
    · cases hq

noncomputable def eqH (args : List AV) (M : AMem) : Option (AV × AMem) :=
  match args with
  | [.slice (some (a, o)) l c, .slice (some (b, p)) m d] =>
    match Nat.beq l m && Nat.ble l 1000000 with
    | true => (match M.row a, M.row b with
      | some cs, some ds => (match eqU l (cs.drop o) (ds.drop p) true with
        | some r => some (.bool r, M)
        | none => none)
      | _, _ => none)
    | false => acall Tryz.prog noH 1000 190 args M
  | _ => acall Tryz.prog noH 1000 190 args M

theorem eqH_ok {args : List AV} {M : AMem} {v : AV} {M' : AMem} (hq : eqH args M = some (v, M')) {ρ : Ab.Loc} {w : World} {vs : List Value} (s : Sim ρ M w) (hg : GlobR Tryz.prog ρ) (hv : VL ρ args vs) :
    Calls Tryz.prog 190 vs.toArray w (fun e w' => ∃ ρ' x, e = .returned x ∧ VR ρ' v x ∧ Sim ρ' M' w' ∧ Ext ρ M w ρ' M' w') := by
  unfold eqH at hq
  split at hq
  · rename_i a o l c b p m d
    split at hq
    · rename_i hc
      simp only [Bool.and_eq_true] at hc
      obtain rfl := Nat.eq_of_beq_eq_true hc.1
      have hl := Nat.le_of_ble_eq_true hc.2
      split at hq
      · rename_i cs ds ha hb
        split at hq
        · rename_i r hr
          cases hq
          have h : acall Tryz.prog noH (l + 6) 190 [.slice (some (a, o)) l c, .slice (some (b, p)) l d] M = some (.bool r, M) := by
            rw [acall_run Tryz.func190 rfl, equal_eq, eq_idx, decide_eq_true rfl, Bool.not_true, iF]
            exact eq_loop ha hb (by omega) l 0 (l + 5) (by omega) (by omega) (by simpa using hr)
          exact acall_sound mixedS noHook (l + 6) 190 _ _ _ _ h ρ w vs s hg hv
        · cases hq
      · cases hq
    · exact acall_sound mixedS noHook 1000 190 _ _ _ _ hq ρ w vs s hg hv
  · exact acall_sound mixedS noHook 1000 190 _ _ _ _ hq ρ w vs s hg hv
end Go.Proofs.YtccmopkjkmpaaaaGreatDoor
