/-
  A chain's questions, a cache's, a shelf's: of a new one.
-/
import Derived.Test.YtfpgakjikmakkaaGreatDoorTrEq
import Derived.Test.YtfpgakjikmakkaaGreatDoorTrDev
namespace Go.Proofs.YtfpgakjikmakkaaGreatDoor
open Go.Ab
set_option linter.unusedVariables false
set_option linter.unusedSimpArgs false
set_option linter.unusedSectionVars false
set_option maxRecDepth 100000

theorem wrap_u32 {x : Int} (h1 : 0 ≤ x) (h2 : x < 4294967296) : IntKind.i64.wrap x = x := wrap_i64 (by omega) (by omega)

section
variable {H : Hook} (hF : Free H)
include hF

theorem hroot_run {M : AMem} {h lk n : Nat} (hc : ChIs M h lk n) (n6 : n ≤ 4096) {m : Nat} (hm : 1 ≤ m) : acall Tryz.prog H m 115 [.ptr (some (h, 0))] M = some (.int .i64 (n : Int), M) := by
  obtain ⟨m, rfl⟩ : ∃ k, m = k + 1 := ⟨m - 1, by omega⟩
  rw [acall_run Tryz.func115 (hF 115 rfl), hroot_eq]
  simp only [row_cells hc.get, bO, aL, List.getElem?_cons_zero, forceI_eq]
  rw [wrap_i64 (x := ((n + 1 : Nat) : Int) - 1) (by omega) (by omega), show ((n + 1 : Nat) : Int) - 1 = (n : Int) by omega]

theorem hthere_run {M : AMem} {h lk n f : Nat} (hc : ChIs M h lk n) (n6 : n ≤ 4096) (hf : f < n) {m : Nat} (hm : 2 ≤ m) : acall Tryz.prog H m 109 [.ptr (some (h, 0)), .int .i64 (f : Int)] M = some (.int .i64 0, M) := by
  obtain ⟨m, rfl⟩ : ∃ k, m = k + 1 := ⟨m - 1, by omega⟩
  rw [acall_run Tryz.func109 (hF 109 rfl), hthere_eq]
  simp only [row_cells hc.get, bO, aL, List.getElem?_cons_zero]
  rw [eqI_eq, show ((((n + 1 : Nat) : Int)) == 0) = false by rw [beq_eq_false_iff_ne]; omega, iF, ltI_eq, decide_eq_false (by omega), iF, hroot_run hF hc n6 (m := m) (by omega)]
  simp only [bO, aI]
  rw [leI_eq, decide_eq_false (by omega), iF]

theorem hcut_run {M : AMem} {h lk n f : Nat} (hc : ChIs M h lk n) (n6 : n ≤ 4096) (hf : f < n) {m : Nat} (hm : 3 ≤ m) : acall Tryz.prog H m 64 [.ptr (some (h, 0)), .int .i64 (f : Int)] M = some (.int .i64 9, M) := by
  obtain ⟨m, rfl⟩ : ∃ k, m = k + 1 := ⟨m - 1, by omega⟩
  obtain ⟨L, hL, hlen, hlow, t0, t1, t2⟩ := hc.links
  rw [acall_run Tryz.func64 (hF 64 rfl), hcut_eq, hthere_run hF hc n6 hf (m := m) (by omega)]
  simp only [bO, aI]
  rw [show eqI 0 0 = true from rfl, Bool.not_true, iF, row_cells hc.get]
  simp only [bO, aL, List.getElem?_cons_zero]
  rw [decide_eq_true (show (0 : Int) ≤ (f : Int) by omega), decide_eq_true (show (f : Int) < ((n + 1 : Nat) : Int) by omega)]
  simp only [Bool.and_self, nT, bO, row_cells hL, Int.toNat_natCast, Nat.zero_add, (hlow f hf).2.2, aB, Bool.not_false, iT]

theorem cnone_run {M : AMem} {lo c d h lk fr mp F : Nat} (hc : CacheIs M lo c d h lk fr mp F) {m : Nat} (hm : 1 ≤ m) : acall Tryz.prog H m 95 [.ptr (some (c, 0))] M = some (.bool false, M) := by
  obtain ⟨m, rfl⟩ : ∃ k, m = k + 1 := ⟨m - 1, by omega⟩
  obtain ⟨u, q, g, G⟩ := hc.get
  rw [acall_run Tryz.func95 (hF 95 rfl), cnone_eq]
  simp only [row_cells g, bO, aP, List.getElem?_cons_zero, eS]
  rfl

theorem cthere_run {M : AMem} {lo c d img h lk fr mp F : Nat} {B Y r w i : Int} (hc : CacheIs M lo c d h lk fr mp F) (hd : DevIs M d img B Y r w) (i0 : 0 ≤ i) (i1 : i < B) {m : Nat} (hm : 2 ≤ m) : acall Tryz.prog H m 63 [.ptr (some (c, 0)), .int .u32 i] M = some (.int .i64 0, M) := by
  obtain ⟨m, rfl⟩ : ∃ k, m = k + 1 := ⟨m - 1, by omega⟩
  obtain ⟨u, q, g, G⟩ := hc.get
  have b6 := hd.b6
  rw [acall_run Tryz.func63 (hF 63 rfl), cthere_eq, cnone_run hF hc (m := m) (by omega)]
  simp only [bO, aB, iF, row_cells g, aP, List.getElem?_cons_zero]
  rw [devblocks_run hF hd (m := m) (by omega)]
  simp only [bO, aI]
  rw [wrap_i64 (x := i) (by omega) (by omega), leI_eq, decide_eq_false (by omega), iF]

theorem sthere_run {M : AMem} {lo s d img c h lk fr mp p r wd : Nat} {c0 c1 c2 c3 c4 c5 c6 c7 i : Int} {ws : List AV} (hs : ShelfIs M lo s d img c h lk fr mp p r wd c0 c1 c2 c3 c4 c5 c6 c7 ws) (i0 : 0 ≤ i) (i1 : i < 4294967296) {m : Nat} (hm : 1 ≤ m) :
    acall Tryz.prog H m 28 [.ptr (some (s, 0)), .int .u32 i] M = some (.int .i64 (if i = 0 ∨ c0 ≤ i then 4 else 0), M) := by
  obtain ⟨m, rfl⟩ : ∃ k, m = k + 1 := ⟨m - 1, by omega⟩
  rw [acall_run Tryz.func28 (hF 28 rfl), sthere_eq]
  simp only [row_cells hs.get, bO, aP, aI, List.getElem?_cons_zero, List.getElem?_cons_succ, eS]
  rw [show ((false : Bool) != false) = false from rfl, iF, wrap_i64 (x := i) (by omega) (by omega), eqI_eq, leI_eq]
  by_cases h0 : i = 0
  · rw [show (i == 0) = true by rw [beq_iff_eq]; exact h0, if_pos (.inl h0)]
    rfl
  · rw [show (i == 0) = false by rw [beq_eq_false_iff_ne]; exact h0, iF]
    by_cases h1 : c0 ≤ i
    · rw [decide_eq_true h1, if_pos (.inr h1)]
      rfl
    · rw [decide_eq_false h1, if_neg (by omega)]
      rfl
end
end Go.Proofs.YtfpgakjikmakkaaGreatDoor

/-
  slices.Clone of bytes.
-/
namespace Go.Proofs.YtfpgakjikmakkaaGreatDoor
open Go.Ab
set_option linter.unusedVariables false
set_option linter.unusedSimpArgs false
set_option linter.unusedSectionVars false
set_option maxRecDepth 100000

theorem i5 : ∃ i, Tryz.prog.info? 5 = some i ∧ i.size = 1 ∧ i.bytes = 1 := by
  have h : (Tryz.prog.info? 5).map (fun i => (i.size, i.bytes)) = some (1, 1) := by kernel_rfl
  obtain ⟨i, h1, h2⟩ := Option.map_eq_some_iff.1 h
  simp only [Prod.mk.injEq] at h2
  exact ⟨i, h1, h2.1, h2.2⟩
theorem z5 : zeroA Tryz.prog 5 = some (.int .u8 0) := by kernel_rfl
theorem cl5 : byteCl Tryz.prog 5 = .of 5 := by kernel_rfl
theorem u88 : Tryz.prog.underlying 65 = some (.slice 5) := by kernel_rfl

section
variable {H : Hook} (hF : Free H)
include hF

theorem clone_run {M : AMem} {img o l : Nat} {q : Option Nat} {cs : List AV} (hr : M.row img = some cs) (hi : img < M.next) (h1 : 1 ≤ l) (h2 : l ≤ 65536) (h3 : o + l ≤ cs.length) {m : Nat} (hm : 1 ≤ m) :
    acall Tryz.prog H m 69 [.slice (some (img, o)) l q] M = some (.slice (some (M.next + 1, 0)) l none, (M.new (.cells [] 0 .yes)).new (.cells ((cs.drop o).take l) 1 (.of 5))) := by
  obtain ⟨m, rfl⟩ : ∃ k, m = k + 1 := ⟨m - 1, by omega⟩
  obtain ⟨ie, hie, his, hib⟩ := i5
  let M1 : AMem := M.new (.cells [] 0 .yes)
  have hr1 : M1.row img = some cs := by
    unfold AMem.row
    show (match (M.new _).get img with | some (.cells c _ _) => some c | some (.ro c) => some c | _ => none) = _
    rw [AMem.get_new, if_neg (by omega)]
    exact hr
  have hsrc : srcCells M1 1 l (.slice (some (img, o)) l q) = some ((cs.drop o).take l) := by
    unfold srcCells
    simp only [Nat.le_refl, if_true, show ¬ l = 0 by omega, if_false]
    unfold cellsFrom
    rw [show M1.row (img, o).1 = some cs from hr1]
    simp only [Nat.mul_one, if_pos h3]
  have key : appendA Tryz.prog M1 65 65 (some (M.next, 0)) 0 (some 0) (.slice (some (img, o)) l q) = some ((some (M1.next, 0), 0 + l, none), M1.new (.cells ([] ++ (cs.drop o).take l) 1 (.of 5))) := by
    unfold appendA
    simp only [u88, hie, z5, show (AV.int IntKind.u8 0).cells.length = 1 from rfl, his, cl5, ne_eq, not_true_eq_false, show ¬ (1 : Nat) = 0 from by decide, or_self, if_false, srcLen, Option.map_some, hsrc]
    rw [if_pos ⟨by rw [hib]; unfold roomA; omega, by unfold roomA; omega⟩]
    have hs0 : srcCells M1 1 0 (.slice (some (M.next, 0)) 0 (some 0)) = some [] := by
      unfold srcCells
      simp
    unfold growA
    rw [if_neg (by omega)]
    simp only
    rw [if_neg (by omega), hs0]
  rw [acall_run Tryz.func69 (hF 69 rfl), clone_eq]
  rw [show ((elimO (some (img, o)) true fun a => false) != false) = false from rfl, iF]
  rw [show appendA Tryz.prog (M.new (ABlk.cells [] 0 Cl.yes)) 65 65 (some (M.next, 0)) 0 (some 0) (AV.slice (some (img, o)) l q) = _ from key]
  simp only [bO, Nat.zero_add, List.nil_append]
  rfl
end
end Go.Proofs.YtfpgakjikmakkaaGreatDoor

/-
  A device's block.
-/
namespace Go.Proofs.YtfpgakjikmakkaaGreatDoor
open Go.Ab
set_option linter.unusedVariables false
set_option linter.unusedSimpArgs false
set_option linter.unusedSectionVars false
set_option maxRecDepth 100000

theorem rep_cut : ∀ (z : AV) (n o l : Nat), o + l ≤ n → ((repA [z] n).drop o).take l = repA [z] l := by
  intro z n o l h
  apply List.ext_getElem?
  intro k
  rw [List.getElem?_take]
  by_cases hk : k < l
  · rw [if_pos hk, List.getElem?_drop, repA_get, repA_get, if_pos (by simp; omega), if_pos (by simp; omega)]
    simp [Nat.mod_one]
  · rw [if_neg hk, List.getElem?_eq_none (by rw [repA_length]; simp; omega)]

section
variable {H : Hook} (hF : Free H)
include hF

theorem devat_run {M : AMem} {d img : Nat} {B Y r w i : Int} (hd : DevIs M d img B Y r w) (i0 : 0 ≤ i) (i1 : i < B) {m : Nat} (hm : 2 ≤ m) :
    acall Tryz.prog H m 113 [.ptr (some (d, 0)), .int .u32 i] M = some (.tup [.slice (some (img, (i * Y).toNat)) Y.toNat (some ((B * Y).toNat - (i * Y).toNat)), .int .i64 0], M) := by
  obtain ⟨m, rfl⟩ : ∃ k, m = k + 1 := ⟨m - 1, by omega⟩
  have b5 := hd.b5
  have b6 := hd.b6
  have y1 := hd.y1
  have y6 := hd.y6
  have hmul := hd.mul
  have p0 : 0 ≤ i * Y := Int.mul_nonneg i0 (by omega)
  have p1 : i * Y + Y ≤ B * Y := by
    have := Int.mul_le_mul_of_nonneg_right (show i + 1 ≤ B by omega) (show 0 ≤ Y by omega)
    rw [Int.add_mul, Int.one_mul] at this
    exact this
  rw [acall_run Tryz.func113 (hF 113 rfl), devat_eq, devblocks_run hF hd (m := m) (by omega)]
  simp only [bO, aI]
  rw [eqI_eq, show (B == 0) = false by rw [beq_eq_false_iff_ne]; omega, iF, devblocks_run hF hd (m := m) (by omega)]
  simp only [bO, aI]
  rw [wrap_i64 (x := i) (by omega) (by omega), leI_eq, decide_eq_false (by omega), iF]
  simp only [hd.row, bO, aI, aL, List.getElem?_cons_zero, List.getElem?_cons_succ, forceI_eq]
  rw [wrap_i64 (x := i * Y) (by omega) (by omega), wrap_i64 (x := i * Y + Y) (by omega) (by omega), decide_eq_true (show 0 ≤ i * Y from p0), nT, decide_eq_true (show 0 ≤ i * Y + Y by omega), nT, eS]
  rw [if_pos (show (i * Y).toNat ≤ (i * Y + Y).toNat ∧ (i * Y + Y).toNat ≤ (B * Y).toNat by omega), if_neg (show ¬ (B * Y).toNat = (i * Y).toNat by omega)]
  simp only [bO, aL, Nat.zero_add, Nat.mul_one]
  rw [show (i * Y + Y).toNat - (i * Y).toNat = Y.toNat by omega]

theorem devread_run {M : AMem} {d img : Nat} {B Y r w i : Int} (hd : DevIs M d img B Y r w) (i0 : 0 ≤ i) (i1 : i < B) (r0 : 0 ≤ r) (r1 : r ≤ 1000000) {m : Nat} (hm : 3 ≤ m) :
    ∃ M', acall Tryz.prog H m 66 [.ptr (some (d, 0)), .int .u32 i] M = some (.tup [.slice (some (M.next + 1, 0)) Y.toNat none, .int .i64 0], M') ∧ DevIs M' d img B Y (r + 1) w ∧ M'.get (M.next + 1) = some (.cells (repA [.int .u8 0] Y.toNat) 1 (.of 5)) ∧ M'.next = M.next + 2 ∧ ∀ q, q < M.next → q ≠ d → M'.get q = M.get q := by
  obtain ⟨m, rfl⟩ : ∃ k, m = k + 1 := ⟨m - 1, by omega⟩
  have b5 := hd.b5
  have b6 := hd.b6
  have y1 := hd.y1
  have y6 := hd.y6
  have hmul := hd.mul
  have hlt := hd.lt
  have hilt := hd.ilt
  have p0 : 0 ≤ i * Y := Int.mul_nonneg i0 (by omega)
  have p1 : i * Y + Y ≤ B * Y := by
    have := Int.mul_le_mul_of_nonneg_right (show i + 1 ≤ B by omega) (show 0 ≤ Y by omega)
    rw [Int.add_mul, Int.one_mul] at this
    exact this
  let M1 : AMem := M.set d (.cells [.int .i64 Y, .slice (some (img, 0)) (B * Y).toNat (some (B * Y).toNat), .int .u64 (r + 1), .int .u64 w] 0 .yes)
  have gi : M1.get img = some (.cells (repA [.int .u8 0] (B * Y).toNat) 0 .yes) := by
    show (M.set _ _).get img = _
    rw [AMem.get_set, if_neg hd.ne, hd.cells]
  have n1 : M1.next = M.next := rfl
  let M2 : AMem := M1.new (.cells [] 0 .yes)
  let M3 : AMem := M2.new (.cells (((repA [.int .u8 0] (B * Y).toNat).drop (i * Y).toNat).take Y.toNat) 1 (.of 5))
  have k2 : Keeps M1.next M1 M2 := Keeps.new _ (Nat.le_refl _)
  have k3 : Keeps M1.next M2 M3 := Keeps.new _ (Nat.le_succ _)
  have k13 : Keeps M1.next M1 M3 := k2.trans k3 (Nat.le_refl _)
  refine ⟨M3, ?_, ⟨?_, ?_, b5, b6, y1, y6, ?_, ?_, hd.ne⟩, ?_, rfl, fun q q1 q2 => ?_⟩
  · rw [acall_run Tryz.func66 (hF 66 rfl), devread_eq, devat_run hF hd i0 i1 (m := m) (by omega)]
    simp only [bO, aT, aC, aL, aI, aN]
    rw [show eqI 0 0 = true from rfl, Bool.not_true, iF, hd.row]
    simp only [bO, aI, List.getElem?_cons_zero, List.getElem?_cons_succ, forceI_eq, hd.get, gC]
    rw [show IntKind.u64.wrap (r + 1) = r + 1 by
      unfold IntKind.wrap
      show (if (false && _) = true then _ else (r + 1) % 18446744073709551616) = r + 1
      rw [if_neg (by simp)]
      omega]
    show bindO (some M1) _ = _
    rw [bO, clone_run hF (M := M1) (img := img) (o := (i * Y).toNat) (l := Y.toNat) (q := some ((B * Y).toNat - (i * Y).toNat)) (row_cells gi) (by omega) (by omega) (by omega) (by rw [repA_length]; simp; omega) (m := m) (by omega)]
    rfl
  · rw [k13.get _ (by omega)]
    show (M.set _ _).get d = _
    rw [AMem.get_set, if_pos rfl]
  · rw [k13.get _ (by omega)]; exact gi
  · have := k13.next; omega
  · have := k13.next; omega
  · show (M2.new _).get _ = _
    rw [AMem.get_new, if_pos (show M.next + 1 = M2.next from rfl), rep_cut _ _ _ _ (by omega)]
  · rw [k13.get _ (by omega)]
    show (M.set _ _).get q = _
    rw [AMem.get_set, if_neg q2]
end
end Go.Proofs.YtfpgakjikmakkaaGreatDoor

/-
  Room in a new cache: its last frame.
-/
namespace Go.Proofs.YtfpgakjikmakkaaGreatDoor
open Go.Ab
set_option linter.unusedVariables false
set_option linter.unusedSimpArgs false
set_option linter.unusedSectionVars false
set_option maxRecDepth 100000

section
variable {H : Hook} (hF : Free H)
include hF

theorem room_run {M : AMem} {lo c d h lk fr mp F : Nat} (hc : CacheIs M lo c d h lk fr mp (F + 1)) (f2 : F ≤ 100) {m : Nat} (hm : 1 ≤ m) :
    ∃ k, acall Tryz.prog H m 65 [.ptr (some (c, 0))] M = some (.tup [.int .i64 (F : Int), .bool true], M.set c (.cells (cacheC d fr (F + 1) mp h (some (k, 0)) F none) 0 .yes)) := by
  obtain ⟨m, rfl⟩ : ∃ k, m = k + 1 := ⟨m - 1, by omega⟩
  obtain ⟨u, q, g, G⟩ := hc.get
  rcases G.is with ⟨he, _⟩ | ⟨k, rfl, rfl, hpos, hlk, hkn, hg⟩
  · exfalso
    have := congrArg List.length he
    simp [upto] at this
  · refine ⟨k, ?_⟩
    have hat : (intCells (upto (F + 1)))[F]? = some (.int .i64 (F : Int)) := by
      unfold intCells upto
      rw [List.getElem?_map, List.getElem?_map, List.getElem?_range (by omega)]
      rfl
    rw [acall_run Tryz.func65 (hF 65 rfl), room_eq]
    simp only [row_cells g, bO, aL, List.getElem?_cons_zero, List.getElem?_cons_succ]
    rw [eqI_eq, show (((F + 1 : Nat) : Int) == 0) = false by rw [beq_eq_false_iff_ne]; omega, iF]
    simp only [forceI_eq]
    rw [wrap_i64 (x := ((F + 1 : Nat) : Int) - 1) (by omega) (by omega), show ((F + 1 : Nat) : Int) - 1 = (F : Int) by omega, decide_eq_true (show (0 : Int) ≤ (F : Int) by omega), decide_eq_true (show (F : Int) < ((F + 1 : Nat) : Int) by omega)]
    simp only [Bool.and_self, nT, bO, row_cells hg, Int.toNat_natCast, Nat.zero_add, Nat.mul_one, hat, aI, eN]
    rw [if_pos (show 0 ≤ F ∧ F ≤ F + 1 by omega)]
    simp only [bO, g, gC]
    rfl
end
end Go.Proofs.YtfpgakjikmakkaaGreatDoor

/-
  A block is put into a new cache's last frame.
-/
namespace Go.Proofs.YtfpgakjikmakkaaGreatDoor
open Go.Ab
set_option linter.unusedVariables false
set_option linter.unusedSimpArgs false
set_option linter.unusedSectionVars false
set_option maxRecDepth 100000

theorem m126 : ∃ kt vt, Tryz.prog.underlying 113 = some (.map kt vt) ∧ Tryz.prog.underlying kt = some (.int .u32) := by
  have h : (match Tryz.prog.underlying 113 with | some (.map kt _) => (match Tryz.prog.underlying kt with | some (.int .u32) => true | _ => false) | _ => false) = true := by kernel_rfl
  split at h
  · rename_i kt vt e
    split at h
    · rename_i e2; exact ⟨kt, vt, e, e2⟩
    · cases h
  · cases h

theorem mapUpd_first {M : AMem} {mp : Nat} {i f : Int} (hi : 0 ≤ i) (hi2 : i < 4294967296) (g : M.get mp = some (.map [] 0)) : mapUpdA Tryz.prog M 113 (some mp) (.int .u32 i) (.int .i64 f) = some (M.set mp (.map [(.int .u32 i, .int .i64 f, 0)] 1)) := by
  obtain ⟨kt, vt, e1, e2⟩ := m126
  unfold mapUpdA
  simp only [e1, e2, g]
  rw [if_pos (by rfl)]
  rfl

/-- the frames behind it: the last one has a block -/
def framesPut (F : Nat) (i : Int) (b : Option (Nat × Nat)) (l : Nat) (q : Option Nat) (p : Int) : List AV :=
  ((List.take (0 + F * 4) (repA frame0 (F + 1))).append [.int .u32 i, .slice b l q, .bool false, .int .i64 p]).append (List.drop (0 + F * 4 + 4) (repA frame0 (F + 1)))

section
variable {H : Hook} (hF : Free H)
include hF

theorem cput_run {M : AMem} {c d h lk fr mp F : Nat} {u : Option (Nat × Nat)} {l' : Nat} {q' : Option Nat} {i : Int} {b : Option (Nat × Nat)} {l : Nat} {q : Option Nat} (f2 : F ≤ 100) (hi : 0 ≤ i) (hi2 : i < 4294967296)
    (gc : M.get c = some (.cells (cacheC d fr (F + 1) mp h u l' q') 0 .yes)) (gf : M.get fr = some (.cells (repA frame0 (F + 1)) 0 .yes)) (gm : M.get mp = some (.map [] 0)) (hch : ChIs M h lk (F + 1))
    (o1 : lk < h) (o2 : h < fr) (o3 : fr < mp) (o4 : mp < c) (o5 : c < M.next) {m : Nat} (hm : 4 ≤ m) :
    ∃ M', acall Tryz.prog H m 67 [.ptr (some (c, 0)), .int .i64 (F : Int), .agg [.int .u32 i, .slice b l q, .bool false, .int .i64 0]] M = some (.tup [], M') ∧
      M'.get c = some (.cells (cacheC d fr (F + 1) mp h u l' q') 0 .yes) ∧ M'.get fr = some (.cells (framesPut F i b l q 1) 0 .yes) ∧ M'.get mp = some (.map [(.int .u32 i, .int .i64 (F : Int), 0)] 1) ∧ ChIs M' h lk (F + 1) ∧ M.next ≤ M'.next ∧ ∀ t, t < M.next → t ≠ fr → t ≠ mp → M'.get t = M.get t := by
  obtain ⟨m, rfl⟩ : ∃ k, m = k + 1 := ⟨m - 1, by omega⟩
  let A0 : List AV := [.int .u32 i, .slice b l q, .bool false, .int .i64 0]
  let A1 : List AV := [.int .u32 i, .slice b l q, .bool false, .int .i64 1]
  let M1 : AMem := M.new (.cells A0 0 .yes)
  let M2 : AMem := M1.set M.next (.cells A1 0 .yes)
  let M3 : AMem := M2.set fr (.cells (framesPut F i b l q 1) 0 .yes)
  let M4 : AMem := M3.set mp (.map [(.int .u32 i, .int .i64 (F : Int), 0)] 1)
  have e1 : ∀ t, t < M.next → M1.get t = M.get t := fun t ht => by show (M.new _).get t = _; rw [AMem.get_new, if_neg (by omega)]
  have e2 : ∀ t, t < M.next → M2.get t = M.get t := fun t ht => by show (M1.set _ _).get t = _; rw [AMem.get_set, if_neg (by omega), e1 t ht]
  have e3 : ∀ t, t < M.next → t ≠ fr → M3.get t = M.get t := fun t ht h1 => by show (M2.set _ _).get t = _; rw [AMem.get_set, if_neg h1, e2 t ht]
  have e4 : ∀ t, t < M.next → t ≠ fr → t ≠ mp → M4.get t = M.get t := fun t ht h1 h2 => by show (M3.set _ _).get t = _; rw [AMem.get_set, if_neg h2, e3 t ht h1]
  have b1 : M1.get M.next = some (.cells A0 0 .yes) := by show (M.new _).get _ = _; rw [AMem.get_new, if_pos rfl]
  have b2 : M2.get M.next = some (.cells A1 0 .yes) := by show (M1.set _ _).get _ = _; rw [AMem.get_set, if_pos rfl]
  have b3 : M3.get M.next = some (.cells A1 0 .yes) := by show (M2.set _ _).get _ = _; rw [AMem.get_set, if_neg (by omega), b2]
  have b2' : M2.row M.next = some [.int .u32 i, .slice b l q, .bool false, .int .i64 1] := row_cells b2
  have b3' : M3.row M.next = some [.int .u32 i, .slice b l q, .bool false, .int .i64 1] := row_cells b3
  have hlk := hch.llt
  have hlh := hch.lt
  have hch4 : ChIs M4 h lk (F + 1) := by
    obtain ⟨L, hL, hlen, hlow, t0, t1, t2⟩ := hch.links
    exact ⟨by rw [e4 _ hlh (by omega) (by omega)]; exact hch.get, ⟨L, by rw [e4 _ hlk (by omega) (by omega)]; exact hL, hlen, hlow, t0, t1, t2⟩, Nat.lt_succ_of_lt hlh, Nat.lt_succ_of_lt hlk, hch.ne⟩
  refine ⟨M4, ?_, by rw [e4 _ o5 (by omega) (by omega), gc], ?_, ?_, hch4, Nat.le_succ _, e4⟩
  · rw [acall_run Tryz.func67 (hF 67 rfl), cput_eq]
    rw [show (M.new (ABlk.cells [AV.int IntKind.u32 i, AV.slice b l q, AV.bool false, AV.int IntKind.i64 0] 0 Cl.yes)).get M.next = _ from b1, gC]
    show bindO (some M2) _ = _
    rw [bO, row_cells ((e2 _ o5).trans gc)]
    simp only [bO, aL, List.getElem?_cons_zero, List.getElem?_cons_succ]
    rw [b2']
    simp only [bO, aG, aC, aN, aI, aL, aB, List.length_cons, List.length_nil, List.take, List.drop, if_pos (show 0 + 4 ≤ 0 + 1 + 1 + 1 + 1 by omega)]
    rw [decide_eq_true (show (0 : Int) ≤ (F : Int) by omega), decide_eq_true (show (F : Int) < ((F + 1 : Nat) : Int) by omega)]
    simp only [Bool.and_self, nT, bO, aP, Int.toNat_natCast]
    rw [(e2 _ (by omega)).trans gf, gC, if_pos (show 0 + F * 4 + (1 + 1 + 1 + 1) ≤ (repA frame0 (F + 1)).length by rw [repA_length]; show _ ≤ (F + 1) * 4; omega), bO]
    show bindO (some M3) _ = _
    rw [bO, row_cells ((e3 _ o5 (by omega)).trans gc)]
    simp only [bO, aM, List.getElem?_cons_zero, List.getElem?_cons_succ]
    rw [b3']
    simp only [bO, aI, List.getElem?_cons_zero]
    rw [mapUpd_first hi hi2 ((e3 _ (by omega) (by omega)).trans gm), bO, row_cells ((e4 _ o5 (by omega) (by omega)).trans gc)]
    simp only [bO, aP, List.getElem?_cons_zero, List.getElem?_cons_succ]
    rw [hcut_run hF hch4 (by omega) (show F < F + 1 by omega) (m := m) (by omega)]
    rfl
  · show (M3.set _ _).get fr = _
    rw [AMem.get_set, if_neg (by omega)]
    show (M2.set _ _).get fr = _
    rw [AMem.get_set, if_pos rfl]
  · show (M3.set _ _).get mp = _
    rw [AMem.get_set, if_pos rfl]
end
end Go.Proofs.YtfpgakjikmakkaaGreatDoor

/-
  A block is pinned in a new cache.
-/
namespace Go.Proofs.YtfpgakjikmakkaaGreatDoor
open Go.Ab
set_option linter.unusedVariables false
set_option linter.unusedSimpArgs false
set_option linter.unusedSectionVars false
set_option maxRecDepth 100000

theorem look_none {M : AMem} {mp : Nat} {i : Int} (g : M.get mp = some (.map [] 0)) : lookA Tryz.prog M 113 (some mp) (.int .u32 i) = some none := by
  obtain ⟨kt, vt, e1, e2⟩ := m126
  unfold lookA
  simp only [e1, e2]
  rw [if_pos (by rfl)]
  unfold mapRow
  simp only [g]
  rfl

section
variable {H : Hook} (hF : Free H)
include hF

theorem pin_run {M : AMem} {lo c d img h lk fr mp F : Nat} {B Y i : Int} (hc : CacheIs M lo c d h lk fr mp (F + 1)) (hd : DevIs M d img B Y 0 0) (f2 : F ≤ 100) (i0 : 0 ≤ i) (i1 : i < B) (d1 : d < lo) (g1 : img < lo) {m : Nat} (hm : 10 ≤ m) :
    ∃ k b M', acall Tryz.prog H m 29 [.ptr (some (c, 0)), .int .u32 i] M = some (.int .i64 0, M') ∧
      M'.get c = some (.cells (cacheC d fr (F + 1) mp h (some (k, 0)) F none) 0 .yes) ∧ M'.get fr = some (.cells (framesPut F i (some (b, 0)) Y.toNat none 1) 0 .yes) ∧ M'.get mp = some (.map [(.int .u32 i, .int .i64 (F : Int), 0)] 1) ∧
      ChIs M' h lk (F + 1) ∧ DevIs M' d img B Y 1 0 ∧ M'.get b = some (.cells (repA [.int .u8 0] Y.toNat) 1 (.of 5)) ∧ M.next ≤ b ∧ b < M'.next ∧ M.next ≤ M'.next ∧ ∀ t, t < M.next → t ≠ c → t ≠ fr → t ≠ mp → t ≠ d → M'.get t = M.get t := by
  obtain ⟨m, rfl⟩ : ∃ k, m = k + 1 := ⟨m - 1, by omega⟩
  obtain ⟨k, rr⟩ := room_run hF hc f2 (m := m) (by omega)
  obtain ⟨u, q, gc, G⟩ := hc.get
  have b1 := hc.b1
  have b2 := hc.b2
  have b3 := hc.b3
  have b4 := hc.b4
  have b5 := hc.b5
  have clt := hc.clt
  have bb6 := hd.b6
  let M1 : AMem := M.set c (.cells (cacheC d fr (F + 1) mp h (some (k, 0)) F none) 0 .yes)
  have n1 : M1.next = M.next := rfl
  have e1 : ∀ t, t ≠ c → M1.get t = M.get t := fun t ht => by show (M.set _ _).get t = _; rw [AMem.get_set, if_neg ht]
  have gc1 : M1.get c = some (.cells (cacheC d fr (F + 1) mp h (some (k, 0)) F none) 0 .yes) := by show (M.set _ _).get c = _; rw [AMem.get_set, if_pos rfl]
  have hd1 : DevIs M1 d img B Y 0 0 := ⟨by rw [e1 _ (by omega)]; exact hd.get, by rw [e1 _ (by omega)]; exact hd.cells, hd.b5, hd.b6, hd.y1, hd.y6, hd.lt, hd.ilt, hd.ne⟩
  have hch1 : ChIs M1 h lk (F + 1) := by
    obtain ⟨L, hL, hlen, hlow, t0, t1, t2⟩ := hc.chain.links
    exact ⟨by rw [e1 _ (by omega)]; exact hc.chain.get, ⟨L, by rw [e1 _ (by omega)]; exact hL, hlen, hlow, t0, t1, t2⟩, hc.chain.lt, hc.chain.llt, hc.chain.ne⟩
  obtain ⟨M2, r2, hd2, gb2, n2, e2⟩ := devread_run hF hd1 i0 i1 (by omega) (by omega) (m := m) (by omega)
  have hch2 : ChIs M2 h lk (F + 1) := by
    obtain ⟨L, hL, hlen, hlow, t0, t1, t2⟩ := hch1.links
    have := hch1.lt
    have := hch1.llt
    exact ⟨by rw [e2 _ (by omega) (by omega)]; exact hch1.get, ⟨L, by rw [e2 _ (by omega) (by omega)]; exact hL, hlen, hlow, t0, t1, t2⟩, by omega, by omega, hch1.ne⟩
  obtain ⟨M3, r3, g3c, g3f, g3m, hch3, n3, e3⟩ := cput_run hF (M := M2) (c := c) (d := d) (fr := fr) (mp := mp) (i := i) (b := some (M1.next + 1, 0)) (l := Y.toNat) (q := none) f2 i0 (by omega) ((e2 _ (by omega) (by omega)).trans gc1) (by rw [e2 _ (by omega) (by omega), e1 _ (by omega)]; exact hc.frames) (by rw [e2 _ (by omega) (by omega), e1 _ (by omega)]; exact hc.map) hch2 b2 b3 b4 b5 (by omega) (m := m) (by omega)
  refine ⟨k, M1.next + 1, M3, ?_, g3c, g3f, g3m, hch3, ⟨?_, ?_, hd.b5, hd.b6, hd.y1, hd.y6, ?_, ?_, hd.ne⟩, ?_, by omega, by omega, by omega, fun t h1 h2 h3 h4 h5 => ?_⟩
  · rw [acall_run Tryz.func29 (hF 29 rfl), pin_eq, cthere_run hF hc hd i0 i1 (m := m) (by omega)]
    simp only [bO, aI]
    rw [show eqI 0 0 = true from rfl, Bool.not_true, iF, row_cells gc]
    simp only [bO, aM, List.getElem?_cons_zero, List.getElem?_cons_succ]
    rw [look_none hc.map]
    simp only [bO, eN]
    rw [rr]
    simp only [bO, aT, aC, aI, aB, aN, Bool.not_true, iF]
    rw [row_cells gc1]
    simp only [bO, aP, List.getElem?_cons_zero]
    rw [r2]
    simp only [bO, aT, aC, aL, aI, aN]
    rw [show eqI 0 0 = true from rfl, Bool.not_true, iF]
    rw [show acall Tryz.prog H m 67 [AV.ptr (some (c, 0)), AV.int IntKind.i64 (F : Int), AV.agg (AV.int IntKind.u32 i :: AV.slice (some (M1.next + 1, 0)) Y.toNat none :: List.drop 2 [AV.int IntKind.u32 i, AV.slice none 0 (some 0), AV.bool false, AV.int IntKind.i64 0])] M2 = _ from r3]
    rfl
  · have hlt2 := hd2.lt
    rw [e3 _ hlt2 (by omega) (by omega)]; exact hd2.get
  · have hlt2 := hd2.ilt
    rw [e3 _ hlt2 (by omega) (by omega)]; exact hd2.cells
  · have := hd2.lt; omega
  · have := hd2.ilt; omega
  · rw [e3 _ (by omega) (by omega) (by omega)]; exact gb2
  · rw [e3 t (by omega) h3 h4, e2 t (by omega) h5, e1 t h2]
end
end Go.Proofs.YtfpgakjikmakkaaGreatDoor

/-
  A pinned block is read.
-/
namespace Go.Proofs.YtfpgakjikmakkaaGreatDoor
open Go.Ab
set_option linter.unusedVariables false
set_option linter.unusedSimpArgs false
set_option linter.unusedSectionVars false
set_option maxRecDepth 100000

theorem framesPut_at (F : Nat) (i : Int) (b : Option (Nat × Nat)) (l : Nat) (q : Option Nat) (p : Int) (j : Nat) (hj : j < 4) : (framesPut F i b l q p)[F * 4 + j]? = ([.int .u32 i, .slice b l q, .bool false, .int .i64 p] : List AV)[j]? := by
  have hR : (repA frame0 (F + 1)).length = (F + 1) * 4 := repA_length (F + 1)
  have hT : (List.take (0 + F * 4) (repA frame0 (F + 1))).length = F * 4 := by rw [List.length_take, hR]; omega
  show (((List.take (0 + F * 4) (repA frame0 (F + 1))) ++ ([.int .u32 i, .slice b l q, .bool false, .int .i64 p] : List AV)) ++ (List.drop (0 + F * 4 + 4) (repA frame0 (F + 1))))[F * 4 + j]? = _
  rw [List.getElem?_append_left (by rw [List.length_append, hT]; simp; omega), List.getElem?_append_right (by rw [hT]; omega), hT, Nat.add_sub_cancel_left]

theorem look_one {M : AMem} {mp : Nat} {i f : Int} {s t : Nat} (g : M.get mp = some (.map [(.int .u32 i, .int .i64 f, s)] t)) : lookA Tryz.prog M 113 (some mp) (.int .u32 i) = some (some (.int .i64 f)) := by
  obtain ⟨kt, vt, e1, e2⟩ := m126
  unfold lookA
  simp only [e1, e2]
  rw [if_pos (by rfl)]
  unfold mapRow
  simp only [g]
  simp [findA, keyEq]

section
variable {H : Hook} (hF : Free H)
include hF

theorem pinned_run {M : AMem} {c d h fr mp F : Nat} {u : Option (Nat × Nat)} {l' : Nat} {q' : Option Nat} {i : Int} {b : Option (Nat × Nat)} {l : Nat} {q : Option Nat} (f2 : F ≤ 100)
    (gc : M.get c = some (.cells (cacheC d fr (F + 1) mp h u l' q') 0 .yes)) (gf : M.get fr = some (.cells (framesPut F i b l q 1) 0 .yes)) (gm : M.get mp = some (.map [(.int .u32 i, .int .i64 (F : Int), 0)] 1)) {m : Nat} (hm : 2 ≤ m) :
    acall Tryz.prog H m 68 [.ptr (some (c, 0)), .int .u32 i] M = some (.tup [.ptr (some (fr, F * 4)), .int .i64 0], M) := by
  obtain ⟨m, rfl⟩ : ∃ k, m = k + 1 := ⟨m - 1, by omega⟩
  have hn : acall Tryz.prog H m 95 [.ptr (some (c, 0))] M = some (.bool false, M) := by
    obtain ⟨m, rfl⟩ : ∃ k, m = k + 1 := ⟨m - 1, by omega⟩
    rw [acall_run Tryz.func95 (hF 95 rfl), cnone_eq]
    simp only [row_cells gc, bO, aP, List.getElem?_cons_zero, eS]
    rfl
  rw [acall_run Tryz.func68 (hF 68 rfl), pinned_eq, hn]
  simp only [bO, aB, iF, row_cells gc, aM, List.getElem?_cons_zero, List.getElem?_cons_succ]
  rw [look_one gm]
  simp only [bO, eS, aI, row_cells gc, aL, List.getElem?_cons_zero, List.getElem?_cons_succ]
  rw [decide_eq_true (show (0 : Int) ≤ (F : Int) by omega), decide_eq_true (show (F : Int) < ((F + 1 : Nat) : Int) by omega)]
  simp only [Bool.and_self, nT, bO, row_cells gf, Int.toNat_natCast, Nat.zero_add, framesPut_at F i b l q 1 3 (by omega), aI, List.getElem?_cons_zero, List.getElem?_cons_succ]
  rw [show eqI 1 0 = false from rfl, iF]
end
end Go.Proofs.YtfpgakjikmakkaaGreatDoor

/-
  A pinned block's bytes.
-/
namespace Go.Proofs.YtfpgakjikmakkaaGreatDoor
open Go.Ab
set_option linter.unusedVariables false
set_option linter.unusedSimpArgs false
set_option linter.unusedSectionVars false
set_option maxRecDepth 100000

section
variable {H : Hook} (hF : Free H)
include hF

theorem cread_run {M : AMem} {c d h fr mp F b Y : Nat} {u : Option (Nat × Nat)} {l' : Nat} {q' : Option Nat} {i : Int} (f2 : F ≤ 100) (y1 : 1 ≤ Y) (y2 : Y ≤ 65536)
    (gc : M.get c = some (.cells (cacheC d fr (F + 1) mp h u l' q') 0 .yes)) (gf : M.get fr = some (.cells (framesPut F i (some (b, 0)) Y none 1) 0 .yes)) (gm : M.get mp = some (.map [(.int .u32 i, .int .i64 (F : Int), 0)] 1))
    (gb : M.get b = some (.cells (repA [.int .u8 0] Y) 1 (.of 5))) (hb : b < M.next) {m : Nat} (hm : 3 ≤ m) :
    ∃ M', acall Tryz.prog H m 30 [.ptr (some (c, 0)), .int .u32 i] M = some (.tup [.slice (some (M.next + 1, 0)) Y none, .int .i64 0], M') ∧ M'.get (M.next + 1) = some (.cells (repA [.int .u8 0] Y) 1 (.of 5)) ∧ M'.next = M.next + 2 ∧ Keeps M.next M M' := by
  obtain ⟨m, rfl⟩ : ∃ k, m = k + 1 := ⟨m - 1, by omega⟩
  let M1 : AMem := M.new (.cells [] 0 .yes)
  let M2 : AMem := M1.new (.cells (((repA [.int .u8 0] Y).drop 0).take Y) 1 (.of 5))
  refine ⟨M2, ?_, ?_, rfl, (Keeps.new (M := M) _ (Nat.le_refl _)).trans (Keeps.new (M := M1) _ (Nat.le_succ _)) (Nat.le_refl _)⟩
  · rw [acall_run Tryz.func30 (hF 30 rfl), cread_eq, pinned_run hF f2 gc gf gm (m := m) (by omega)]
    simp only [bO, aT, aC, aP, aI, aN]
    rw [show eqI 0 0 = true from rfl, Bool.not_true, iF]
    simp only [bO, row_cells gf, framesPut_at F i (some (b, 0)) Y none 1 1 (by omega), aL, List.getElem?_cons_zero, List.getElem?_cons_succ]
    rw [clone_run hF (M := M) (img := b) (o := 0) (l := Y) (q := none) (row_cells gb) hb y1 y2 (by rw [repA_length]; simp) (m := m) (by omega)]
    rfl
  · show (M1.new _).get _ = _
    rw [AMem.get_new, if_pos (show M.next + 1 = M1.next from rfl), rep_cut _ _ _ _ (by omega)]
end
end Go.Proofs.YtfpgakjikmakkaaGreatDoor

/-
  A number is put to the front of a new chain.
-/
namespace Go.Proofs.YtfpgakjikmakkaaGreatDoor
open Go.Ab
set_option linter.unusedVariables false
set_option linter.unusedSimpArgs false
set_option linter.unusedSectionVars false
set_option maxRecDepth 100000

theorem put_length (L X : List AV) (k e : Nat) (h1 : k + X.length = e) (h2 : e ≤ L.length) : (((List.take k L).append X).append (List.drop e L)).length = L.length := by
  show ((List.take k L ++ X) ++ List.drop e L).length = _
  rw [List.length_append, List.length_append, List.length_take, List.length_drop]
  omega

section
variable {H : Hook} (hF : Free H)
include hF

theorem hout_run {M : AMem} {h lk n f : Nat} (hc : ChIs M h lk n) (n6 : n ≤ 4096) (hf : f < n) {m : Nat} (hm : 1 ≤ m) :
    ∃ M', acall Tryz.prog H m 110 [.ptr (some (h, 0)), .int .i64 (f : Int)] M = some (.tup [], M') ∧ M'.next = M.next + 1 ∧ ∀ t, t < M.next → M'.get t = M.get t := by
  obtain ⟨m, rfl⟩ : ∃ k, m = k + 1 := ⟨m - 1, by omega⟩
  obtain ⟨L, hL, hlen, hlow, t0, t1, t2⟩ := hc.links
  let M1 : AMem := M.new (.cells link0 0 .yes)
  let M2 : AMem := M1.set M.next (.cells link0 0 .yes)
  refine ⟨M2, ?_, rfl, fun t ht => ?_⟩
  · rw [acall_run Tryz.func110 (hF 110 rfl), hout_eq, row_cells hc.get]
    simp only [bO, aL, List.getElem?_cons_zero]
    rw [decide_eq_true (show (0 : Int) ≤ (f : Int) by omega), decide_eq_true (show (f : Int) < ((n + 1 : Nat) : Int) by omega)]
    simp only [Bool.and_self, nT, bO, row_cells hL, Int.toNat_natCast, Nat.zero_add]
    have hcut : List.take 3 (List.drop (f * 3) L) = [.int .i64 0, .int .i64 0, .bool false] := by
      apply List.ext_getElem?
      intro j
      rw [List.getElem?_take]
      by_cases hj : j < 3
      · rw [if_pos hj, List.getElem?_drop]
        obtain ⟨a, b, c⟩ := hlow f hf
        rcases j with _ | _ | _ | j
        · exact a
        · exact b
        · exact c
        · omega
      · rw [if_neg hj]
        rw [List.getElem?_eq_none (by simp; omega)]
    rw [if_pos (show f * 3 + 3 ≤ L.length by rw [hlen]; omega), hcut]
    simp only [bO, aG, aC, aN, aI, aB]
    rw [show (M.new (ABlk.cells [AV.int IntKind.i64 0, AV.int IntKind.i64 0, AV.bool false] 0 Cl.yes)).get M.next = some (.cells link0 0 .yes) by rw [AMem.get_new, if_pos rfl], gC]
    show bindO (some M2) _ = _
    rw [bO, show M2.row M.next = some [.int .i64 0, .int .i64 0, .bool false] from row_cells (by show (M1.set _ _).get _ = _; rw [AMem.get_set, if_pos rfl])]
    simp only [bO, List.getElem?_cons_zero, List.getElem?_cons_succ, aB, Bool.not_false, iT]
  · show (M1.set _ _).get t = _
    rw [AMem.get_set, if_neg (by omega)]
    show (M.new _).get t = _
    rw [AMem.get_new, if_neg (by omega)]

theorem hput_run {M : AMem} {h lk n f : Nat} (hc : ChIs M h lk n) (n6 : n ≤ 4096) (hf : f < n) {m : Nat} (hm : 1 ≤ m) :
    ∃ M', acall Tryz.prog H m 114 [.ptr (some (h, 0)), .int .i64 (f : Int), .int .i64 (n : Int)] M = some (.tup [], M') ∧ M'.next = M.next ∧ ∀ t, t ≠ h → t ≠ lk → M'.get t = M.get t := by
  obtain ⟨m, rfl⟩ : ∃ k, m = k + 1 := ⟨m - 1, by omega⟩
  obtain ⟨L, hL, hlen, hlow, t0, t1, t2⟩ := hc.links
  have hne := hc.ne
  let G : List AV := [.slice (some (lk, 0)) (n + 1) (some (n + 1)), .int .i64 0]
  let L1 : List AV := ((List.take (f * 3) L).append [.int .i64 n, .int .i64 n, .bool true]).append (List.drop (f * 3 + 3) L)
  let M1 : AMem := M.set lk (.cells L1 0 .yes)
  let L2 : List AV := ((List.take (n * 3 + 1) L1).append [.int .i64 f]).append (List.drop (n * 3 + 1 + 1) L1)
  let M2 : AMem := M1.set lk (.cells L2 0 .yes)
  let L3 : List AV := ((List.take (n * 3 + 0) L2).append [.int .i64 f]).append (List.drop (n * 3 + 0 + 1) L2)
  let M3 : AMem := M2.set lk (.cells L3 0 .yes)
  have l1 : L1.length = (n + 1) * 3 := (put_length L [.int .i64 n, .int .i64 n, .bool true] (f * 3) (f * 3 + 3) rfl (by omega)).trans hlen
  have l2 : L2.length = (n + 1) * 3 := (put_length L1 [.int .i64 f] (n * 3 + 1) (n * 3 + 1 + 1) rfl (by omega)).trans l1
  have k1 : M1.get h = some (.cells G 0 .yes) := by show (M.set _ _).get _ = _; rw [AMem.get_set, if_neg (fun e => hne e.symm), hc.get]
  have k2 : M2.get h = some (.cells G 0 .yes) := by show (M1.set _ _).get _ = _; rw [AMem.get_set, if_neg (fun e => hne e.symm), k1]
  have k3 : M3.get h = some (.cells G 0 .yes) := by show (M2.set _ _).get _ = _; rw [AMem.get_set, if_neg (fun e => hne e.symm), k2]
  have j1 : M1.get lk = some (.cells L1 0 .yes) := by show (M.set _ _).get _ = _; rw [AMem.get_set, if_pos rfl]
  have j2 : M2.get lk = some (.cells L2 0 .yes) := by show (M1.set _ _).get _ = _; rw [AMem.get_set, if_pos rfl]
  refine ⟨M3.set h (.cells [.slice (some (lk, 0)) (n + 1) (some (n + 1)), .int .i64 1] 0 .yes), ?_, rfl, fun t h1 h2 => ?_⟩
  · rw [acall_run Tryz.func114 (hF 114 rfl), hput_eq, row_cells hc.get]
    simp only [bO, aL, List.getElem?_cons_zero]
    rw [decide_eq_true (show (0 : Int) ≤ (n : Int) by omega), decide_eq_true (show (n : Int) < ((n + 1 : Nat) : Int) by omega)]
    simp only [Bool.and_self, nT, bO, row_cells hL, Int.toNat_natCast, Nat.zero_add, t1, aI]
    rw [decide_eq_true (show (0 : Int) ≤ (f : Int) by omega), decide_eq_true (show (f : Int) < ((n + 1 : Nat) : Int) by omega)]
    simp only [Bool.and_self, nT, bO]
    rw [hL, gC, if_pos (show f * 3 + (0 + 1 + 1 + 1) ≤ L.length by omega), bO]
    show bindO (some M1) _ = _
    rw [bO, row_cells k1]
    simp only [G, bO, aL, List.getElem?_cons_zero]
    rw [decide_eq_true (show (n : Int) < ((n + 1 : Nat) : Int) by omega)]
    simp only [Bool.and_self, nT, bO, Nat.zero_add]
    rw [j1, gC, if_pos (show n * 3 + 1 + 1 ≤ L1.length by omega), bO]
    show bindO (some M2) _ = _
    rw [bO, row_cells k2]
    simp only [G, bO, aL, List.getElem?_cons_zero]
    rw [decide_eq_true (show (0 : Int) ≤ (n : Int) by omega), decide_eq_true (show (n : Int) < ((n + 1 : Nat) : Int) by omega)]
    simp only [Bool.and_self, nT, bO, Nat.zero_add]
    rw [j2, gC, if_pos (show n * 3 + 0 + 1 ≤ L2.length by omega), bO]
    show bindO (some M3) _ = _
    rw [bO, row_cells k3]
    simp only [G, bO, List.getElem?_cons_zero, List.getElem?_cons_succ, aI, forceI_eq]
    rw [show IntKind.i64.wrap ((0 : Int) + 1) = 1 from rfl, k3, gC]
    rfl
  · rw [AMem.get_set, if_neg h1]
    show (M2.set _ _).get t = _
    rw [AMem.get_set, if_neg h2]
    show (M1.set _ _).get t = _
    rw [AMem.get_set, if_neg h2]
    show (M.set _ _).get t = _
    rw [AMem.get_set, if_neg h2]

theorem hfront_run {M : AMem} {h lk n f : Nat} (hc : ChIs M h lk n) (n6 : n ≤ 4096) (hf : f < n) {m : Nat} (hm : 3 ≤ m) :
    ∃ M', acall Tryz.prog H m 70 [.ptr (some (h, 0)), .int .i64 (f : Int)] M = some (.int .i64 0, M') ∧ M'.next = M.next + 1 ∧ ∀ t, t < M.next → t ≠ h → t ≠ lk → M'.get t = M.get t := by
  obtain ⟨m, rfl⟩ : ∃ k, m = k + 1 := ⟨m - 1, by omega⟩
  obtain ⟨M1, e1, n1, k1⟩ := hout_run hF hc n6 hf (m := m) (by omega)
  have hlh := hc.lt
  have hlk := hc.llt
  have hc1 : ChIs M1 h lk n := by
    obtain ⟨L, hL, r⟩ := hc.links
    exact ⟨by rw [k1 _ hlh]; exact hc.get, ⟨L, by rw [k1 _ hlk]; exact hL, r⟩, by omega, by omega, hc.ne⟩
  obtain ⟨M2, e2, n2, k2⟩ := hput_run hF hc1 n6 hf (m := m) (by omega)
  refine ⟨M2, ?_, by omega, fun t ht h1 h2 => by rw [k2 t h1 h2, k1 t ht]⟩
  rw [acall_run Tryz.func70 (hF 70 rfl), hfront_eq, hthere_run hF hc n6 hf (m := m) (by omega)]
  simp only [bO, aI]
  rw [show eqI 0 0 = true from rfl, iT, e1]
  simp only [bO, aT, aN]
  rw [hroot_run hF hc1 n6 (m := m) (by omega)]
  simp only [bO, aI]
  rw [e2]
  simp only [bO, aT, aN]

theorem unpin_run {M : AMem} {c d h lk fr mp F : Nat} {u : Option (Nat × Nat)} {l' : Nat} {q' : Option Nat} {i : Int} {b : Option (Nat × Nat)} {l : Nat} {q : Option Nat} (f2 : F ≤ 100)
    (gc : M.get c = some (.cells (cacheC d fr (F + 1) mp h u l' q') 0 .yes)) (gf : M.get fr = some (.cells (framesPut F i b l q 1) 0 .yes)) (gm : M.get mp = some (.map [(.int .u32 i, .int .i64 (F : Int), 0)] 1)) (hch : ChIs M h lk (F + 1))
    (o1 : lk < h) (o2 : h < fr) (o3 : fr < mp) (o4 : mp < c) (o5 : c < M.next) {m : Nat} (hm : 4 ≤ m) :
    ∃ M', acall Tryz.prog H m 31 [.ptr (some (c, 0)), .int .u32 i] M = some (.int .i64 0, M') ∧ M.next ≤ M'.next ∧ ∀ t, t < M.next → t ≠ h → t ≠ lk → t ≠ fr → M'.get t = M.get t := by
  obtain ⟨m, rfl⟩ : ∃ k, m = k + 1 := ⟨m - 1, by omega⟩
  let R : List AV := framesPut F i b l q 1
  let R1 : List AV := ((List.take (F * 4 + 3) R).append [.int .i64 0]).append (List.drop (F * 4 + 3 + 1) R)
  have hR : R.length = (F + 1) * 4 := (put_length (repA frame0 (F + 1)) [.int .u32 i, .slice b l q, .bool false, .int .i64 1] (0 + F * 4) (0 + F * 4 + 4) rfl (by rw [repA_length]; show _ ≤ (F + 1) * 4; omega)).trans (repA_length (F + 1))
  have hR1 : R1[F * 4 + 3]? = some (.int .i64 0) := by
    show ((List.take (F * 4 + 3) R ++ [.int .i64 0]) ++ List.drop (F * 4 + 3 + 1) R)[F * 4 + 3]? = _
    have hT : (List.take (F * 4 + 3) R).length = F * 4 + 3 := by rw [List.length_take, hR]; omega
    rw [List.getElem?_append_left (by rw [List.length_append, hT]; simp), List.getElem?_append_right (by rw [hT]; omega), hT, Nat.sub_self]
    rfl
  let M1 : AMem := M.set fr (.cells R1 0 .yes)
  have e1 : ∀ t, t ≠ fr → M1.get t = M.get t := fun t h1 => by show (M.set _ _).get t = _; rw [AMem.get_set, if_neg h1]
  have b1 : M1.get fr = some (.cells R1 0 .yes) := by show (M.set _ _).get _ = _; rw [AMem.get_set, if_pos rfl]
  have hch1 : ChIs M1 h lk (F + 1) := by
    obtain ⟨L, hL, r⟩ := hch.links
    exact ⟨by rw [e1 _ (by omega)]; exact hch.get, ⟨L, by rw [e1 _ (by omega)]; exact hL, r⟩, hch.lt, hch.llt, hch.ne⟩
  obtain ⟨M2, e2, n2, k2⟩ := hfront_run hF hch1 (by omega) (show F < F + 1 by omega) (m := m) (by omega)
  refine ⟨M2, ?_, by rw [n2]; exact Nat.le_succ _, fun t ht h1 h2 h3 => by rw [k2 t ht h1 h2, e1 t h3]⟩
  rw [acall_run Tryz.func31 (hF 31 rfl), unpin_eq, pinned_run hF f2 gc gf gm (m := m) (by omega)]
  simp only [bO, aT, aC, aP, aI, aN]
  rw [show eqI 0 0 = true from rfl, Bool.not_true, iF]
  simp only [bO, row_cells gf, framesPut_at F i b l q 1 3 (by omega), aI, List.getElem?_cons_zero, List.getElem?_cons_succ, forceI_eq]
  rw [show IntKind.i64.wrap ((1 : Int) - 1) = 0 from rfl, gf, gC, if_pos (show F * 4 + 3 + 1 ≤ R.length by omega), bO]
  show bindO (some M1) _ = _
  rw [bO]
  simp only [row_cells b1, bO, hR1, aI]
  rw [show eqI 0 0 = true from rfl, iT, row_cells ((e1 c (by omega)).trans gc)]
  simp only [bO, aP, aM, List.getElem?_cons_zero, List.getElem?_cons_succ]
  rw [look_one ((e1 mp (by omega)).trans gm)]
  simp only [bO, eS, aI]
  rw [e2]
  simp only [bO, aI]
end
end Go.Proofs.YtfpgakjikmakkaaGreatDoor

/-
  A number alone in a chain; a block that is in the cache is pinned again.
-/
namespace Go.Proofs.YtfpgakjikmakkaaGreatDoor
open Go.Ab
set_option linter.unusedVariables false
set_option linter.unusedSimpArgs false
set_option linter.unusedSectionVars false
set_option maxRecDepth 100000

theorem put_get (L X : List AV) (k e j : Nat) (h1 : k + X.length = e) (h2 : e ≤ L.length) : (((List.take k L).append X).append (List.drop e L))[j]? = if j < k then L[j]? else if j < e then X[j - k]? else L[j]? := by
  show ((List.take k L ++ X) ++ List.drop e L)[j]? = _
  have hT : (List.take k L).length = k := by rw [List.length_take]; omega
  by_cases a : j < k
  · rw [if_pos a, List.getElem?_append_left (by rw [List.length_append, hT]; omega), List.getElem?_append_left (by rw [hT]; exact a), List.getElem?_take, if_pos a]
  · rw [if_neg a]
    by_cases b : j < e
    · rw [if_pos b, List.getElem?_append_left (by rw [List.length_append, hT]; omega), List.getElem?_append_right (by rw [hT]; omega), hT]
    · rw [if_neg b, List.getElem?_append_right (by rw [List.length_append, hT]; omega), List.length_append, hT, List.getElem?_drop, show e + (j - (k + X.length)) = j by omega]

theorem put1_get (L : List AV) (x : AV) (k j : Nat) (h : k < L.length) : (((List.take k L).append [x]).append (List.drop (k + 1) L))[j]? = if j = k then some x else L[j]? := by
  rw [put_get L [x] k (k + 1) j rfl (by omega)]
  by_cases a : j = k
  · subst a
    rw [if_neg (by omega), if_pos (by omega), if_pos rfl, Nat.sub_self]
    rfl
  · rw [if_neg a]
    by_cases b : j < k
    · rw [if_pos b]
    · rw [if_neg b, if_neg (by omega)]

theorem put3_get (L : List AV) (x y z : AV) (k j : Nat) (h : k + 3 ≤ L.length) : (((List.take k L).append [x, y, z]).append (List.drop (k + 3) L))[j]? = if j = k then some x else if j = k + 1 then some y else if j = k + 2 then some z else L[j]? := by
  rw [put_get L [x, y, z] k (k + 3) j rfl h]
  by_cases a : j = k
  · subst a
    rw [if_neg (by omega), if_pos (by omega), if_pos rfl, Nat.sub_self]
    rfl
  · rw [if_neg a]
    by_cases b : j = k + 1
    · subst b
      rw [if_neg (by omega), if_pos (by omega), if_pos rfl, Nat.add_sub_cancel_left]
      rfl
    · rw [if_neg b]
      by_cases c : j = k + 2
      · subst c
        rw [if_neg (by omega), if_pos (by omega), if_pos rfl, Nat.add_sub_cancel_left]
        rfl
      · rw [if_neg c]
        by_cases d : j < k
        · rw [if_pos d]
        · rw [if_neg d, if_neg (by omega)]

theorem framesPut_length (F : Nat) (i : Int) (b : Option (Nat × Nat)) (l : Nat) (q : Option Nat) (p : Int) : (framesPut F i b l q p).length = (F + 1) * 4 :=
  (put_length (repA frame0 (F + 1)) [.int .u32 i, .slice b l q, .bool false, .int .i64 p] (0 + F * 4) (0 + F * 4 + 4) rfl (by rw [repA_length]; show _ ≤ (F + 1) * 4; omega)).trans (repA_length (F + 1))

theorem framesPut_pin (F : Nat) (i : Int) (b : Option (Nat × Nat)) (l : Nat) (q : Option Nat) (p p' : Int) :
    ((List.take (F * 4 + 3) (framesPut F i b l q p)).append [.int .i64 p']).append (List.drop (F * 4 + 3 + 1) (framesPut F i b l q p)) = framesPut F i b l q p' := by
  have hR : (repA frame0 (F + 1)).length = (F + 1) * 4 := repA_length (F + 1)
  apply List.ext_getElem?
  intro j
  rw [put1_get _ _ _ _ (by rw [framesPut_length]; omega)]
  unfold framesPut
  rw [put_get (repA frame0 (F + 1)) [.int .u32 i, .slice b l q, .bool false, .int .i64 p] (0 + F * 4) (0 + F * 4 + 4) j rfl (by rw [hR]; omega)]
  rw [put_get (repA frame0 (F + 1)) [.int .u32 i, .slice b l q, .bool false, .int .i64 p'] (0 + F * 4) (0 + F * 4 + 4) j rfl (by rw [hR]; omega)]
  by_cases a : j = F * 4 + 3
  · subst a
    rw [if_pos rfl, if_neg (by omega), if_pos (by omega), show F * 4 + 3 - (0 + F * 4) = 3 by omega]
    rfl
  · rw [if_neg a]
    by_cases c : j < 0 + F * 4
    · rw [if_pos c, if_pos c]
    · rw [if_neg c, if_neg c]
      by_cases d : j < 0 + F * 4 + 4
      · rw [if_pos d, if_pos d]
        obtain ⟨x, rfl⟩ : ∃ x, j = 0 + F * 4 + x := ⟨j - (0 + F * 4), by omega⟩
        rw [Nat.add_sub_cancel_left]
        rcases x with _ | _ | _ | x
        · rfl
        · rfl
        · rfl
        · omega
      · rw [if_neg d, if_neg d]

/-- a chain of n numbers of which f alone is in the row -/
structure ChOne (M : AMem) (h lk n f : Nat) : Prop where
  get : M.get h = some (.cells [.slice (some (lk, 0)) (n + 1) (some (n + 1)), .int .i64 1] 0 .yes)
  links : ∃ L, M.get lk = some (.cells L 0 .yes) ∧ L.length = (n + 1) * 3 ∧ (∀ g, g < n → g ≠ f → L[g * 3]? = some (.int .i64 0) ∧ L[g * 3 + 1]? = some (.int .i64 0) ∧ L[g * 3 + 2]? = some (.bool false)) ∧
    (L[f * 3]? = some (.int .i64 n) ∧ L[f * 3 + 1]? = some (.int .i64 n) ∧ L[f * 3 + 2]? = some (.bool true)) ∧
    L[n * 3]? = some (.int .i64 f) ∧ L[n * 3 + 1]? = some (.int .i64 f) ∧ L[n * 3 + 2]? = some (.bool false)
  lt : h < M.next
  llt : lk < M.next
  ne : lk ≠ h

theorem ChOne.same {M M' : AMem} {h lk n f : Nat} (H : ChOne M h lk n f) (k1 : M'.get h = M.get h) (k2 : M'.get lk = M.get lk) (k3 : M.next ≤ M'.next) : ChOne M' h lk n f := by
  obtain ⟨L, hL, r⟩ := H.links
  exact ⟨by rw [k1]; exact H.get, ⟨L, by rw [k2]; exact hL, r⟩, Nat.lt_of_lt_of_le H.lt k3, Nat.lt_of_lt_of_le H.llt k3, H.ne⟩

theorem ChIs.same {M M' : AMem} {h lk n : Nat} (H : ChIs M h lk n) (k1 : M'.get h = M.get h) (k2 : M'.get lk = M.get lk) (k3 : M.next ≤ M'.next) : ChIs M' h lk n := by
  obtain ⟨L, hL, r⟩ := H.links
  exact ⟨by rw [k1]; exact H.get, ⟨L, by rw [k2]; exact hL, r⟩, Nat.lt_of_lt_of_le H.lt k3, Nat.lt_of_lt_of_le H.llt k3, H.ne⟩

section
variable {H : Hook} (hF : Free H)
include hF

theorem hroot_run' {M : AMem} {h lk n : Nat} {k : Int} (g : M.get h = some (.cells [.slice (some (lk, 0)) (n + 1) (some (n + 1)), .int .i64 k] 0 .yes)) (n6 : n ≤ 4096) {m : Nat} (hm : 1 ≤ m) : acall Tryz.prog H m 115 [.ptr (some (h, 0))] M = some (.int .i64 (n : Int), M) := by
  obtain ⟨m, rfl⟩ : ∃ k, m = k + 1 := ⟨m - 1, by omega⟩
  rw [acall_run Tryz.func115 (hF 115 rfl), hroot_eq]
  simp only [row_cells g, bO, aL, List.getElem?_cons_zero, forceI_eq]
  rw [wrap_i64 (x := ((n + 1 : Nat) : Int) - 1) (by omega) (by omega), show ((n + 1 : Nat) : Int) - 1 = (n : Int) by omega]

theorem hthere_run' {M : AMem} {h lk n f : Nat} {k : Int} (g : M.get h = some (.cells [.slice (some (lk, 0)) (n + 1) (some (n + 1)), .int .i64 k] 0 .yes)) (n6 : n ≤ 4096) (hf : f < n) {m : Nat} (hm : 2 ≤ m) : acall Tryz.prog H m 109 [.ptr (some (h, 0)), .int .i64 (f : Int)] M = some (.int .i64 0, M) := by
  obtain ⟨m, rfl⟩ : ∃ k, m = k + 1 := ⟨m - 1, by omega⟩
  rw [acall_run Tryz.func109 (hF 109 rfl), hthere_eq]
  simp only [row_cells g, bO, aL, List.getElem?_cons_zero]
  rw [eqI_eq, show ((((n + 1 : Nat) : Int)) == 0) = false by rw [beq_eq_false_iff_ne]; omega, iF, ltI_eq, decide_eq_false (by omega), iF, hroot_run' hF g n6 (m := m) (by omega)]
  simp only [bO, aI]
  rw [leI_eq, decide_eq_false (by omega), iF]

theorem hput1_run {M : AMem} {h lk n f : Nat} (hc : ChIs M h lk n) (n6 : n ≤ 4096) (hf : f < n) {m : Nat} (hm : 1 ≤ m) :
    ∃ M', acall Tryz.prog H m 114 [.ptr (some (h, 0)), .int .i64 (f : Int), .int .i64 (n : Int)] M = some (.tup [], M') ∧ ChOne M' h lk n f ∧ M'.next = M.next ∧ ∀ t, t ≠ h → t ≠ lk → M'.get t = M.get t := by
  obtain ⟨m, rfl⟩ : ∃ k, m = k + 1 := ⟨m - 1, by omega⟩
  obtain ⟨L, hL, hlen, hlow, t0, t1, t2⟩ := hc.links
  have hne := hc.ne
  let G : List AV := [.slice (some (lk, 0)) (n + 1) (some (n + 1)), .int .i64 0]
  let L1 : List AV := ((List.take (f * 3) L).append [.int .i64 n, .int .i64 n, .bool true]).append (List.drop (f * 3 + 3) L)
  let M1 : AMem := M.set lk (.cells L1 0 .yes)
  let L2 : List AV := ((List.take (n * 3 + 1) L1).append [.int .i64 f]).append (List.drop (n * 3 + 1 + 1) L1)
  let M2 : AMem := M1.set lk (.cells L2 0 .yes)
  let L3 : List AV := ((List.take (n * 3 + 0) L2).append [.int .i64 f]).append (List.drop (n * 3 + 0 + 1) L2)
  let M3 : AMem := M2.set lk (.cells L3 0 .yes)
  have l1 : L1.length = (n + 1) * 3 := (put_length L [.int .i64 n, .int .i64 n, .bool true] (f * 3) (f * 3 + 3) rfl (by omega)).trans hlen
  have l2 : L2.length = (n + 1) * 3 := (put_length L1 [.int .i64 f] (n * 3 + 1) (n * 3 + 1 + 1) rfl (by omega)).trans l1
  have l3 : L3.length = (n + 1) * 3 := (put_length L2 [.int .i64 f] (n * 3 + 0) (n * 3 + 0 + 1) rfl (by omega)).trans l2
  have k1 : M1.get h = some (.cells G 0 .yes) := by show (M.set _ _).get _ = _; rw [AMem.get_set, if_neg (fun e => hne e.symm), hc.get]
  have k2 : M2.get h = some (.cells G 0 .yes) := by show (M1.set _ _).get _ = _; rw [AMem.get_set, if_neg (fun e => hne e.symm), k1]
  have k3 : M3.get h = some (.cells G 0 .yes) := by show (M2.set _ _).get _ = _; rw [AMem.get_set, if_neg (fun e => hne e.symm), k2]
  have j1 : M1.get lk = some (.cells L1 0 .yes) := by show (M.set _ _).get _ = _; rw [AMem.get_set, if_pos rfl]
  have j2 : M2.get lk = some (.cells L2 0 .yes) := by show (M1.set _ _).get _ = _; rw [AMem.get_set, if_pos rfl]
  have j3 : M3.get lk = some (.cells L3 0 .yes) := by show (M2.set _ _).get _ = _; rw [AMem.get_set, if_pos rfl]
  have p3 : ∀ j, L3[j]? = if j = n * 3 then some (.int .i64 f) else L2[j]? := fun j => put1_get L2 (.int .i64 f) (n * 3 + 0) j (by omega)
  have p2 : ∀ j, L2[j]? = if j = n * 3 + 1 then some (.int .i64 f) else L1[j]? := fun j => put1_get L1 (.int .i64 f) (n * 3 + 1) j (by omega)
  have p1 : ∀ j, L1[j]? = if j = f * 3 then some (.int .i64 n) else if j = f * 3 + 1 then some (.int .i64 n) else if j = f * 3 + 2 then some (.bool true) else L[j]? := fun j => put3_get L _ _ _ (f * 3) j (by omega)
  let M4 : AMem := M3.set h (.cells [.slice (some (lk, 0)) (n + 1) (some (n + 1)), .int .i64 1] 0 .yes)
  refine ⟨M4, ?_, ⟨by show (M3.set _ _).get _ = _; rw [AMem.get_set, if_pos rfl], ⟨L3, by show (M3.set _ _).get _ = _; rw [AMem.get_set, if_neg hne]; exact j3, l3, fun g hg hgf => ?_, ?_, ?_, ?_, ?_⟩, hc.lt, hc.llt, hne⟩, rfl, fun t h1 h2 => ?_⟩
  · rw [acall_run Tryz.func114 (hF 114 rfl), hput_eq, row_cells hc.get]
    simp only [bO, aL, List.getElem?_cons_zero]
    rw [decide_eq_true (show (0 : Int) ≤ (n : Int) by omega), decide_eq_true (show (n : Int) < ((n + 1 : Nat) : Int) by omega)]
    simp only [Bool.and_self, nT, bO, row_cells hL, Int.toNat_natCast, Nat.zero_add, t1, aI]
    rw [decide_eq_true (show (0 : Int) ≤ (f : Int) by omega), decide_eq_true (show (f : Int) < ((n + 1 : Nat) : Int) by omega)]
    simp only [Bool.and_self, nT, bO]
    rw [hL, gC, if_pos (show f * 3 + (0 + 1 + 1 + 1) ≤ L.length by omega), bO]
    show bindO (some M1) _ = _
    rw [bO, row_cells k1]
    simp only [G, bO, aL, List.getElem?_cons_zero]
    rw [decide_eq_true (show (n : Int) < ((n + 1 : Nat) : Int) by omega)]
    simp only [Bool.and_self, nT, bO, Nat.zero_add]
    rw [j1, gC, if_pos (show n * 3 + 1 + 1 ≤ L1.length by omega), bO]
    show bindO (some M2) _ = _
    rw [bO, row_cells k2]
    simp only [G, bO, aL, List.getElem?_cons_zero]
    rw [decide_eq_true (show (0 : Int) ≤ (n : Int) by omega), decide_eq_true (show (n : Int) < ((n + 1 : Nat) : Int) by omega)]
    simp only [Bool.and_self, nT, bO, Nat.zero_add]
    rw [j2, gC, if_pos (show n * 3 + 0 + 1 ≤ L2.length by omega), bO]
    show bindO (some M3) _ = _
    rw [bO, row_cells k3]
    simp only [G, bO, List.getElem?_cons_zero, List.getElem?_cons_succ, aI, forceI_eq]
    rw [show IntKind.i64.wrap ((0 : Int) + 1) = 1 from rfl, k3, gC]
    rfl
  · obtain ⟨a, b, c⟩ := hlow g hg
    refine ⟨?_, ?_, ?_⟩
    · rw [p3, if_neg (by omega), p2, if_neg (by omega), p1, if_neg (by omega), if_neg (by omega), if_neg (by omega), a]
    · rw [p3, if_neg (by omega), p2, if_neg (by omega), p1, if_neg (by omega), if_neg (by omega), if_neg (by omega), b]
    · rw [p3, if_neg (by omega), p2, if_neg (by omega), p1, if_neg (by omega), if_neg (by omega), if_neg (by omega), c]
  · refine ⟨?_, ?_, ?_⟩
    · rw [p3, if_neg (by omega), p2, if_neg (by omega), p1, if_pos rfl]
    · rw [p3, if_neg (by omega), p2, if_neg (by omega), p1, if_neg (by omega), if_pos rfl]
    · rw [p3, if_neg (by omega), p2, if_neg (by omega), p1, if_neg (by omega), if_neg (by omega), if_pos rfl]
  · rw [p3, if_pos rfl]
  · rw [p3, if_neg (by omega), p2, if_pos rfl]
  · rw [p3, if_neg (by omega), p2, if_neg (by omega), p1, if_neg (by omega), if_neg (by omega), if_neg (by omega), t2]
  · show (M3.set _ _).get t = _
    rw [AMem.get_set, if_neg h1]
    show (M2.set _ _).get t = _
    rw [AMem.get_set, if_neg h2]
    show (M1.set _ _).get t = _
    rw [AMem.get_set, if_neg h2]
    show (M.set _ _).get t = _
    rw [AMem.get_set, if_neg h2]

theorem hfront1_run {M : AMem} {h lk n f : Nat} (hc : ChIs M h lk n) (n6 : n ≤ 4096) (hf : f < n) {m : Nat} (hm : 3 ≤ m) :
    ∃ M', acall Tryz.prog H m 70 [.ptr (some (h, 0)), .int .i64 (f : Int)] M = some (.int .i64 0, M') ∧ ChOne M' h lk n f ∧ M'.next = M.next + 1 ∧ ∀ t, t < M.next → t ≠ h → t ≠ lk → M'.get t = M.get t := by
  obtain ⟨m, rfl⟩ : ∃ k, m = k + 1 := ⟨m - 1, by omega⟩
  obtain ⟨M1, e1, n1, k1⟩ := hout_run hF hc n6 hf (m := m) (by omega)
  have hlh := hc.lt
  have hlk := hc.llt
  have hc1 : ChIs M1 h lk n := hc.same (k1 _ hlh) (k1 _ hlk) (by omega)
  obtain ⟨M2, e2, o2, n2, k2⟩ := hput1_run hF hc1 n6 hf (m := m) (by omega)
  refine ⟨M2, ?_, o2, by omega, fun t ht h1 h2 => by rw [k2 t h1 h2, k1 t ht]⟩
  rw [acall_run Tryz.func70 (hF 70 rfl), hfront_eq, hthere_run hF hc n6 hf (m := m) (by omega)]
  simp only [bO, aI]
  rw [show eqI 0 0 = true from rfl, iT, e1]
  simp only [bO, aT, aN]
  rw [hroot_run hF hc1 n6 (m := m) (by omega)]
  simp only [bO, aI]
  rw [e2]
  simp only [bO, aT, aN]

theorem hout1_run {M : AMem} {h lk n f : Nat} (hc : ChOne M h lk n f) (n6 : n ≤ 4096) (hf : f < n) {m : Nat} (hm : 1 ≤ m) :
    ∃ M', acall Tryz.prog H m 110 [.ptr (some (h, 0)), .int .i64 (f : Int)] M = some (.tup [], M') ∧ ChIs M' h lk n ∧ M'.next = M.next + 1 ∧ ∀ t, t < M.next → t ≠ h → t ≠ lk → M'.get t = M.get t := by
  obtain ⟨m, rfl⟩ : ∃ k, m = k + 1 := ⟨m - 1, by omega⟩
  obtain ⟨L, hL, hlen, hlow, ⟨f0, f1, f2⟩, t0, t1, t2⟩ := hc.links
  have hlt := hc.lt
  have hllt := hc.llt
  have hne := hc.ne
  let G : List AV := [.slice (some (lk, 0)) (n + 1) (some (n + 1)), .int .i64 1]
  let X : List AV := [.int .i64 n, .int .i64 n, .bool true]
  let M1 : AMem := M.new (.cells link0 0 .yes)
  let M2 : AMem := M1.set M.next (.cells X 0 .yes)
  let L1 : List AV := ((List.take (n * 3 + 1) L).append [.int .i64 n]).append (List.drop (n * 3 + 1 + 1) L)
  let M3 : AMem := M2.set lk (.cells L1 0 .yes)
  let L2 : List AV := ((List.take (n * 3 + 0) L1).append [.int .i64 n]).append (List.drop (n * 3 + 0 + 1) L1)
  let M4 : AMem := M3.set lk (.cells L2 0 .yes)
  let L3 : List AV := ((List.take (f * 3) L2).append [.int .i64 0, .int .i64 0, .bool false]).append (List.drop (f * 3 + 3) L2)
  let M5 : AMem := M4.set lk (.cells L3 0 .yes)
  let M6 : AMem := M5.set h (.cells [.slice (some (lk, 0)) (n + 1) (some (n + 1)), .int .i64 0] 0 .yes)
  have l1 : L1.length = (n + 1) * 3 := (put_length L [.int .i64 n] (n * 3 + 1) (n * 3 + 1 + 1) rfl (by omega)).trans hlen
  have l2 : L2.length = (n + 1) * 3 := (put_length L1 [.int .i64 n] (n * 3 + 0) (n * 3 + 0 + 1) rfl (by omega)).trans l1
  have l3 : L3.length = (n + 1) * 3 := (put_length L2 [.int .i64 0, .int .i64 0, .bool false] (f * 3) (f * 3 + 3) rfl (by omega)).trans l2
  have q2 : ∀ t, t < M.next → M2.get t = M.get t := fun t ht => by
    show (M1.set _ _).get t = _
    rw [AMem.get_set, if_neg (by omega)]
    show (M.new _).get t = _
    rw [AMem.get_new, if_neg (by omega)]
  have q3 : ∀ t, t ≠ lk → M3.get t = M2.get t := fun t ht => by show (M2.set _ _).get t = _; rw [AMem.get_set, if_neg ht]
  have q4 : ∀ t, t ≠ lk → M4.get t = M2.get t := fun t ht => by show (M3.set _ _).get t = _; rw [AMem.get_set, if_neg ht, q3 t ht]
  have q5 : ∀ t, t ≠ lk → M5.get t = M2.get t := fun t ht => by show (M4.set _ _).get t = _; rw [AMem.get_set, if_neg ht, q4 t ht]
  have x2 : M2.get M.next = some (.cells X 0 .yes) := by show (M1.set _ _).get _ = _; rw [AMem.get_set, if_pos rfl]
  have h2 : M2.get h = some (.cells G 0 .yes) := (q2 h hlt).trans hc.get
  have h3 : M3.get h = some (.cells G 0 .yes) := (q3 h (fun e => hne e.symm)).trans h2
  have h4 : M4.get h = some (.cells G 0 .yes) := (q4 h (fun e => hne e.symm)).trans h2
  have h5 : M5.get h = some (.cells G 0 .yes) := (q5 h (fun e => hne e.symm)).trans h2
  have x3 : M3.get M.next = some (.cells X 0 .yes) := (q3 _ (by omega)).trans x2
  have lk2 : M2.get lk = some (.cells L 0 .yes) := (q2 lk hllt).trans hL
  have lk3 : M3.get lk = some (.cells L1 0 .yes) := by show (M2.set _ _).get _ = _; rw [AMem.get_set, if_pos rfl]
  have lk4 : M4.get lk = some (.cells L2 0 .yes) := by show (M3.set _ _).get _ = _; rw [AMem.get_set, if_pos rfl]
  have lk5 : M5.get lk = some (.cells L3 0 .yes) := by show (M4.set _ _).get _ = _; rw [AMem.get_set, if_pos rfl]
  have p1 : ∀ j, L1[j]? = if j = n * 3 + 1 then some (.int .i64 n) else L[j]? := fun j => put1_get L (.int .i64 n) (n * 3 + 1) j (by omega)
  have p2 : ∀ j, L2[j]? = if j = n * 3 then some (.int .i64 n) else L1[j]? := fun j => put1_get L1 (.int .i64 n) (n * 3 + 0) j (by omega)
  have p3 : ∀ j, L3[j]? = if j = f * 3 then some (.int .i64 0) else if j = f * 3 + 1 then some (.int .i64 0) else if j = f * 3 + 2 then some (.bool false) else L2[j]? := fun j => put3_get L2 _ _ _ (f * 3) j (by omega)
  refine ⟨M6, ?_, ⟨by show (M5.set _ _).get _ = _; rw [AMem.get_set, if_pos rfl], ⟨L3, by show (M5.set _ _).get _ = _; rw [AMem.get_set, if_neg hne]; exact lk5, l3, fun g hg => ?_, ?_, ?_, ?_⟩, Nat.lt_succ_of_lt hlt, Nat.lt_succ_of_lt hllt, hne⟩, rfl, fun t ht h1 h2 => ?_⟩
  · rw [acall_run Tryz.func110 (hF 110 rfl), hout_eq, row_cells hc.get]
    simp only [bO, aL, List.getElem?_cons_zero]
    rw [decide_eq_true (show (0 : Int) ≤ (f : Int) by omega), decide_eq_true (show (f : Int) < ((n + 1 : Nat) : Int) by omega)]
    simp only [Bool.and_self, nT, bO, row_cells hL, Int.toNat_natCast, Nat.zero_add]
    have hcut : List.take 3 (List.drop (f * 3) L) = [.int .i64 n, .int .i64 n, .bool true] := by
      apply List.ext_getElem?
      intro j
      rw [List.getElem?_take]
      by_cases hj : j < 3
      · rw [if_pos hj, List.getElem?_drop]
        rcases j with _ | _ | _ | j
        · exact f0
        · exact f1
        · exact f2
        · omega
      · rw [if_neg hj]
        rw [List.getElem?_eq_none (by simp; omega)]
    rw [if_pos (show f * 3 + 3 ≤ L.length by rw [hlen]; omega), hcut]
    simp only [bO, aG, aC, aN, aI, aB]
    rw [show (M.new (ABlk.cells [AV.int IntKind.i64 0, AV.int IntKind.i64 0, AV.bool false] 0 Cl.yes)).get M.next = some (.cells link0 0 .yes) by rw [AMem.get_new, if_pos rfl], gC]
    show bindO (some M2) _ = _
    rw [bO, row_cells x2]
    simp only [X, bO, List.getElem?_cons_zero, List.getElem?_cons_succ, aB, Bool.not_true, iF]
    rw [row_cells h2]
    simp only [G, bO, aL, aI, List.getElem?_cons_zero, List.getElem?_cons_succ]
    rw [decide_eq_true (show (0 : Int) ≤ (n : Int) by omega), decide_eq_true (show (n : Int) < ((n + 1 : Nat) : Int) by omega)]
    simp only [Bool.and_self, nT, bO, aP, Int.toNat_natCast, Nat.zero_add]
    rw [lk2, gC, if_pos (show n * 3 + 1 + 1 ≤ L.length by omega), bO]
    show bindO (some M3) _ = _
    rw [bO, row_cells h3]
    simp only [G, bO, aL, List.getElem?_cons_zero, List.getElem?_cons_succ]
    rw [row_cells x3]
    simp only [X, bO, aI, List.getElem?_cons_zero, List.getElem?_cons_succ]
    rw [decide_eq_true (show (0 : Int) ≤ (n : Int) by omega), decide_eq_true (show (n : Int) < ((n + 1 : Nat) : Int) by omega)]
    simp only [Bool.and_self, nT, bO, aP, Int.toNat_natCast, Nat.zero_add]
    rw [lk3, gC, if_pos (show n * 3 + 0 + 1 ≤ L1.length by omega), bO]
    show bindO (some M4) _ = _
    rw [bO, row_cells h4]
    simp only [G, bO, aL, List.getElem?_cons_zero]
    rw [decide_eq_true (show (f : Int) < ((n + 1 : Nat) : Int) by omega)]
    simp only [Bool.and_self, nT, bO, Int.toNat_natCast, Nat.zero_add]
    rw [lk4, gC, if_pos (show f * 3 + 3 ≤ L2.length by omega), bO]
    show bindO (some M5) _ = _
    rw [bO, row_cells h5]
    simp only [G, bO, List.getElem?_cons_zero, List.getElem?_cons_succ, aI, forceI_eq]
    rw [show IntKind.i64.wrap ((1 : Int) - 1) = 0 from rfl, h5, gC]
    rfl
  · by_cases e : g = f
    · subst e
      refine ⟨?_, ?_, ?_⟩
      · rw [p3, if_pos rfl]
      · rw [p3, if_neg (by omega), if_pos rfl]
      · rw [p3, if_neg (by omega), if_neg (by omega), if_pos rfl]
    · obtain ⟨a, b, c⟩ := hlow g hg e
      refine ⟨?_, ?_, ?_⟩
      · rw [p3, if_neg (by omega), if_neg (by omega), if_neg (by omega), p2, if_neg (by omega), p1, if_neg (by omega), a]
      · rw [p3, if_neg (by omega), if_neg (by omega), if_neg (by omega), p2, if_neg (by omega), p1, if_neg (by omega), b]
      · rw [p3, if_neg (by omega), if_neg (by omega), if_neg (by omega), p2, if_neg (by omega), p1, if_neg (by omega), c]
  · rw [p3, if_neg (by omega), if_neg (by omega), if_neg (by omega), p2, if_pos rfl]
  · rw [p3, if_neg (by omega), if_neg (by omega), if_neg (by omega), p2, if_neg (by omega), p1, if_pos rfl]
  · rw [p3, if_neg (by omega), if_neg (by omega), if_neg (by omega), p2, if_neg (by omega), p1, if_neg (by omega), t2]
  · show (M5.set _ _).get t = _
    rw [AMem.get_set, if_neg h1, q5 t h2, q2 t ht]

theorem hcut1_run {M : AMem} {h lk n f : Nat} (hc : ChOne M h lk n f) (n6 : n ≤ 4096) (hf : f < n) {m : Nat} (hm : 3 ≤ m) :
    ∃ M', acall Tryz.prog H m 64 [.ptr (some (h, 0)), .int .i64 (f : Int)] M = some (.int .i64 0, M') ∧ ChIs M' h lk n ∧ M'.next = M.next + 1 ∧ ∀ t, t < M.next → t ≠ h → t ≠ lk → M'.get t = M.get t := by
  obtain ⟨m, rfl⟩ : ∃ k, m = k + 1 := ⟨m - 1, by omega⟩
  obtain ⟨L, hL, hlen, hlow, ⟨f0, f1, f2⟩, t0, t1, t2⟩ := hc.links
  obtain ⟨M1, e1, o1, n1, k1⟩ := hout1_run hF hc n6 hf (m := m) (by omega)
  refine ⟨M1, ?_, o1, n1, k1⟩
  rw [acall_run Tryz.func64 (hF 64 rfl), hcut_eq, hthere_run' hF hc.get n6 hf (m := m) (by omega)]
  simp only [bO, aI]
  rw [show eqI 0 0 = true from rfl, Bool.not_true, iF, row_cells hc.get]
  simp only [bO, aL, List.getElem?_cons_zero]
  rw [decide_eq_true (show (0 : Int) ≤ (f : Int) by omega), decide_eq_true (show (f : Int) < ((n + 1 : Nat) : Int) by omega)]
  simp only [Bool.and_self, nT, bO, row_cells hL, Int.toNat_natCast, Nat.zero_add, f2, aB, Bool.not_true, iF]
  rw [e1]
  simp only [bO, aT, aN]
end
end Go.Proofs.YtfpgakjikmakkaaGreatDoor
