/-
  'sluicegatelaw40.IndexNobody' answers true, told of the abstract memory, where the tag is not longer than any memory.
-/
import Derived.Test.YtccmopkjkmpaaaaGreatDoorIxLaw
namespace Go.Proofs.YtccmopkjkmpaaaaGreatDoor
open Go Go.Ab
set_option linter.unusedVariables false
set_option linter.unusedSimpArgs false
set_option maxRecDepth 100000

theorem freeX : ∀ f, (f == 3 || (f == 5 || f == 20)) = true → hkX f = none := by
  intro f h
  simp only [Bool.or_eq_true, beq_iff_eq] at h
  rcases h with rfl | rfl | rfl <;> rfl

theorem wake_call {M : AMem} (h : 4 ≤ M.next) (hs : subM linG M = true) {m : Nat} (hm : 1 ≤ m) : acall Tryz.prog hkX m 16 [] M = some (.bool true, M) := by
  obtain ⟨m, rfl⟩ : ∃ k, m = k + 1 := ⟨m - 1, by omega⟩
  rw [acall]
  show wakeH [] M = _
  unfold wakeH
  rw [Nat.ble_eq_true_of_le h, hs]
  rfl

abbrev PX : AV := .ptr (some (270, 0))
abbrev PS : AV := .ptr (some (269, 0))
abbrev spanM (D : AMem) (lo hi : List UInt8) : AMem := (D.new (.cells [.str [], .str [], .bool false] 0 .yes)).set D.next (.cells [.str lo, .str hi, .bool false] 0 .yes)

theorem find_abs {D2 : AMem} {t : List UInt8} {n : Nat} {D5 : List UInt8 → List UInt8 → AMem} (ht : t.length ≤ 2000000)
    (hnone : acall Tryz.prog hkX (n + 200) 17 [PX] (D2.new (.cells (parts t) 0 .yes)) = some (.bool false, D2.new (.cells (parts t) 0 .yes)))
    (hrow : ∀ lo hi, (spanM (D2.new (.cells (parts t) 0 .yes)) lo hi).row 270 = some [PS])
    (hrange : ∀ lo hi, acall Tryz.prog hkX (n + 200) 43 [PS, .str lo, .str hi, .int .i64 1073741824] (spanM (D2.new (.cells (parts t) 0 .yes)) lo hi) = some (.tup [.slice none 0 (some 0), .int .i64 13], D5 lo hi)) :
    ∃ lo hi, acall Tryz.prog hkX (n + 201) 20 [PX, .slice (some (D2.next, 0)) 2 (some 2)] (D2.new (.cells (parts t) 0 .yes)) = some (.tup [.slice none 0 (some 0), .int .i64 13], D5 lo hi) := by
  have hr : (D2.new (.cells (parts t) 0 .yes)).row D2.next = some (parts t) := row_cells (s := 0) (l := .yes) (by rw [AMem.get_new, if_pos rfl])
  obtain ⟨lo, hi, hsp⟩ := span_call (a := D2.next) (cc := some 2) hr (Nat.lt_succ_self _) ht (m := n + 200) (by omega)
  refine ⟨lo, hi, ?_⟩
  rw [acall_run Tryz.func20 (freeX 20 rfl), find_eq, hnone]
  simp only [bO, aB, iF]
  rw [hsp]
  simp only [bO, aT, aC, aG, aS, aB, aN, aI]
  rw [put3 (fresh_get _ _), bO]
  rw [show (!eqI 0 0) = false from rfl, iF, hrow]
  simp only [bO, List.getElem?_cons_zero, aP]
  rw [fresh_row]
  simp only [bO, List.getElem?_cons_zero, List.getElem?_cons_succ, aS]
  rw [hrange]
  simp only [bO, aT, aC, aL, aI, aN]
  rw [show (!eqI 13 0) = true from rfl, iT]

theorem tagged_abs {C D1 D2 : AMem} {t : List UInt8} {n : Nat} {D5 : List UInt8 → List UInt8 → AMem} (ht : t.length ≤ 2000000)
    (hnum : acall Tryz.prog hkX (n + 201) 21 [.int .u64 2] C = some (.agg [.bool true, .int .u64 2, .str []], D1))
    (htext : acall Tryz.prog hkX (n + 201) 22 [.str t] D1 = some (.agg [.bool false, .int .u64 0, .str t], D2))
    (hnone : acall Tryz.prog hkX (n + 200) 17 [PX] (D2.new (.cells (parts t) 0 .yes)) = some (.bool false, D2.new (.cells (parts t) 0 .yes)))
    (hrow : ∀ lo hi, (spanM (D2.new (.cells (parts t) 0 .yes)) lo hi).row 270 = some [PS])
    (hrange : ∀ lo hi, acall Tryz.prog hkX (n + 200) 43 [PS, .str lo, .str hi, .int .i64 1073741824] (spanM (D2.new (.cells (parts t) 0 .yes)) lo hi) = some (.tup [.slice none 0 (some 0), .int .i64 13], D5 lo hi)) :
    ∃ lo hi, acall Tryz.prog hkX (n + 202) 5 [PX, .str t] C = some (.tup [.slice none 0 (some 0), .int .i64 13], D5 lo hi) := by
  obtain ⟨lo, hi, hf⟩ := find_abs ht hnone hrow hrange
  refine ⟨lo, hi, ?_⟩
  rw [acall_run Tryz.func5 (freeX 5 rfl), tagged_eq, hnum]
  simp only [bO, aG, aC, aB, aI, aS, aN]
  rw [htext]
  simp only [bO, aG, aC, aB, aI, aS, aN]
  rw [show acall Tryz.prog hkX (n + 201) 20 [PX, .slice (some (D2.next, 0)) 2 (some 2)] (D2.new (ABlk.cells (AV.bool true :: AV.int IntKind.u64 2 :: AV.str [] :: AV.bool false :: AV.int IntKind.u64 0 :: AV.str t :: List.drop 6 [AV.bool true, AV.int IntKind.u64 2, AV.str [], AV.bool false, AV.int IntKind.u64 0, AV.str []]) 0 Cl.yes)) = _ from hf]
  simp only [bO, aT, aC, aL, aI, aN]
  rw [show (!eqI 13 0) = true from rfl, iT]

theorem tagged_run (k t : List UInt8) (ht : t.length ≤ 2000000) (n : Nat) : ∃ lo hi, acall Tryz.prog hkX (n + 202) 5 [PX, .str t] (memC k t) = some (.tup [.slice none 0 (some 0), .int .i64 13], memD5 k t lo hi) :=
  tagged_abs (D5 := memD5 k t) ht (num_run k t (n + 1)) (text_run k t (n + 1)) (none_run k t n) (x_row k t) (fun lo hi => range_run k t lo hi n)

theorem law_abs {A B B2 B3 C : AMem} {k t : List UInt8} {n : Nat} {D5 E E2 E3 : List UInt8 → List UInt8 → AMem}
    (hnew : acall Tryz.prog hkX (n + 202) 12 [.ptr none] A = some (.tup [.ptr none, .int .i64 1], B))
    (hwide : acall Tryz.prog hkX (n + 202) 14 [] B = some (.agg [.int .i64 20, .int .i64 800, .int .i64 8, .int .i64 8, .int .i64 16, .int .i64 16, .int .i64 24, .int .i64 3], B2))
    (hbegun : acall Tryz.prog hkX (n + 202) 13 [.agg [.int .i64 20, .int .i64 800, .int .i64 8, .int .i64 8, .int .i64 16, .int .i64 16, .int .i64 24, .int .i64 3]] B2 = some (PX, B3))
    (hstore : acall Tryz.prog hkX (n + 202) 11 [PX] B3 = some (PS, B3))
    (hclose : acall Tryz.prog hkX (n + 202) 15 [PS] B3 = some (.tup [.slice (some (407, 0)) 16000 none, .int .i64 0], C))
    (htag : ∃ lo hi, acall Tryz.prog hkX (n + 202) 5 [PX, .str t] C = some (.tup [.slice none 0 (some 0), .int .i64 13], D5 lo hi))
    (htags : ∀ lo hi, acall Tryz.prog hkX (n + 202) 6 [PX] (D5 lo hi) = some (.tup [.slice none 0 (some 0), .int .i64 13], E lo hi))
    (hset : ∀ lo hi, acall Tryz.prog hkX (n + 202) 9 [PX, .str [{ toBitVec := 97#8 : UInt8 }], .str [{ toBitVec := 98#8 : UInt8 }]] (E lo hi) = some (.int .i64 13, E2 lo hi))
    (hdrop : ∀ lo hi, acall Tryz.prog hkX (n + 202) 10 [PX, .str [{ toBitVec := 97#8 : UInt8 }]] (E2 lo hi) = some (.int .i64 13, E3 lo hi))
    (h4 : ∀ lo hi, 4 ≤ (E3 lo hi).next) (htb : ∀ lo hi, subM linG (E3 lo hi) = true) :
    isT (afterLoop Tryz.prog hkX Tryz.f3 0 (n + 202) (.exit 0) (mkFr [(0, .str k), (1, .str t), (4, .bool false), (5, .ptr none), (6, .slice (some (5, 0)) 2 (some 2)), (7, .int .i64 2)]) A) = true := by
  obtain ⟨lo, hi, htag⟩ := htag
  rw [lawL_end0, hnew]
  simp only [bO, aT, aC, aP, aI, aN]
  rw [hwide]
  simp only [bO, aG, aC, aI, aN]
  rw [hbegun]
  simp only [bO, aP, eS, eN]
  rw [show (true != true) = false from rfl, iF, show (!eqI 1 1) = false from rfl, iF, show (false != false) = false from rfl, iF, hstore]
  simp only [bO, aP]
  rw [hclose]
  simp only [bO, aT, aC, aL, aI, aN]
  rw [htag]
  simp only [bO, aT, aC, aL, aI, aN]
  rw [htags]
  simp only [bO, aT, aC, aL, aI, aN]
  rw [show eqI 13 13 = true from rfl, iT, iT, hset]
  simp only [bO, aI]
  rw [show eqI 13 13 = true from rfl, iT, hdrop]
  simp only [bO, aI]
  rw [show eqI 13 13 = true from rfl, iT, wake_call (h4 lo hi) (htb lo hi) (by omega)]
  rfl

theorem law_runs (k t : List UInt8) (ht : t.length ≤ 2000000) (n : Nat) : isT (acall Tryz.prog hkX (n + 203) 3 [.str k, .str t] memG) = true := by
  rw [acall_run Tryz.func3 (freeX 3 rfl), law_eq]
  exact (congrArg isT (law_loop k t (n + 2) (afterLoop Tryz.prog hkX Tryz.f3 0 (n + 202)))).trans
    (law_abs (k := k) (t := t) (D5 := memD5 k t) (E := memE k t) (E2 := memE2 k t) (E3 := memE3 k t) (new_nil k t (n + 2)) (wide_run k t (n + 2)) (begun_run k t (n + 2)) (store_run k t (n + 2)) (close_run k t (n + 2)) (tagged_run k t ht n)
      (fun lo hi => tags_run k t lo hi (n + 2)) (fun lo hi => set_run k t lo hi (n + 2)) (fun lo hi => drop_run k t lo hi (n + 2)) (fun lo hi => Nat.le_of_ble_eq_true (memE3_next k t lo hi)) (fun lo hi => memE3_tab k t lo hi))
end Go.Proofs.YtccmopkjkmpaaaaGreatDoor
