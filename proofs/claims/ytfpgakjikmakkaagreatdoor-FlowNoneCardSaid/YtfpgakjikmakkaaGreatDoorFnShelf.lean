/-
  A shelf of which one block alone is asked: Load of it tells the same error again and again; how many blocks are left stays.
-/
import Derived.Test.YtfpgakjikmakkaaGreatDoorTrRaw
import Derived.Test.YtfpgakjikmakkaaGreatDoorFnEq
import Derived.Test.YtfpgakjikmakkaaGreatDoorSlicesIn
namespace Go.Proofs.YtfpgakjikmakkaaGreatDoor
open Go.Ab
set_option linter.unusedVariables false
set_option linter.unusedSimpArgs false
set_option linter.unusedSectionVars false
set_option maxRecDepth 100000

/-- the error of block i -/
def errOf (c0 i : Int) : Int := if i = 0 ∨ c0 ≤ i then 4 else 12

theorem errOf_ne (c0 i : Int) : (!eqI (errOf c0 i) 0) = true := by
  unfold errOf
  split <;> rfl

structure ShB (M : AMem) (lo s d img c h lk fr mp p r wd : Nat) (c0 c1 c2 c3 c4 c5 c6 c7 i : Int) : Prop where
  get : M.get s = some (.cells (shelfC c0 c1 c2 c3 c4 c5 c6 c7 d c p) 0 .yes)
  pool : M.get p = some (.cells [.ptr (some (r, 0))] 0 .yes)
  row : M.get r = some (.cells [.int .i64 c0, .int .i64 1, .slice (some (wd, 0)) ((c0 + 63) / 64).toNat (some ((c0 + 63) / 64).toNat)] 0 .yes)
  slt : s < M.next
  plt : p < M.next
  rlt : r < M.next
  cls : c < s
  clp : c < p
  clr : c < r
  dlo : d < lo
  ilo : img < lo
  right : rightZ c0 c1 c2 c3 c4 c5 c6 c7 = true
  b1 : lo ≤ lk
  b2 : lk < h
  b3 : h < fr
  b4 : fr < mp
  b5 : mp < c
  st : (CacheIs M lo c d h lk fr mp c2.toNat ∧ DevIs M d img c0 c1 0 0) ∨
    ∃ b F, c2.toNat = F + 1 ∧ CacheHas M lo d c h lk fr mp b F c1.toNat i 0 ∧ ChOne M h lk (F + 1) F ∧ DevIs M d img c0 c1 1 0

theorem ShB.moved {M M' : AMem} {lo s d img c h lk fr mp p r wd : Nat} {c0 c1 c2 c3 c4 c5 c6 c7 i : Int} (S : ShB M lo s d img c h lk fr mp p r wd c0 c1 c2 c3 c4 c5 c6 c7 i) (k : Keeps M.next M M') : ShB M' lo s d img c h lk fr mp p r wd c0 c1 c2 c3 c4 c5 c6 c7 i := by
  have cls := S.cls
  have slt := S.slt
  have b2 := S.b2
  have b3 := S.b3
  have b4 := S.b4
  have b5 := S.b5
  refine ⟨by rw [k.get _ S.slt]; exact S.get, by rw [k.get _ S.plt]; exact S.pool, by rw [k.get _ S.rlt]; exact S.row, Nat.lt_of_lt_of_le S.slt k.next, Nat.lt_of_lt_of_le S.plt k.next, Nat.lt_of_lt_of_le S.rlt k.next, S.cls, S.clp, S.clr, S.dlo, S.ilo, S.right, S.b1, S.b2, S.b3, S.b4, S.b5, ?_⟩
  rcases S.st with ⟨hc, hd⟩ | ⟨b, F, hF, hc, ho, hd⟩
  · exact .inl ⟨hc.moved k, hd.same (k.get _ hd.lt) (k.get _ hd.ilt) k.next⟩
  · exact .inr ⟨b, F, hF, hc.same (k.get _ (by omega)) (k.get _ (by omega)) (k.get _ (by omega)) (k.get _ hc.hb) k.next, ho.same (k.get _ (by omega)) (k.get _ (by omega)) k.next, hd.same (k.get _ hd.lt) (k.get _ hd.ilt) k.next⟩

section
variable {H : Hook} (hF : Free H)
include hF

theorem load_all {M : AMem} {lo s d img c h lk fr mp p r wd : Nat} {c0 c1 c2 c3 c4 c5 c6 c7 i : Int} (S : ShB M lo s d img c h lk fr mp p r wd c0 c1 c2 c3 c4 c5 c6 c7 i) (i0 : 0 ≤ i) (i1 : i < 4294967296) {m : Nat} (hm : 30 ≤ m) :
    ∃ M', acall Tryz.prog H m 12 [.ptr (some (s, 0)), .int .u32 i] M = some (.tup [.agg (N5 0), .int .i64 (errOf c0 i)], M') ∧ ShB M' lo s d img c h lk fr mp p r wd c0 c1 c2 c3 c4 c5 c6 c7 i ∧ M.next ≤ M'.next ∧ ∀ t, t < lo → t ≠ d → M'.get t = M.get t := by
  obtain ⟨m, rfl⟩ : ∃ k, m = k + 1 := ⟨m - 1, by omega⟩
  have hz' := S.right
  unfold rightZ at hz'
  simp only [Bool.and_eq_true, leI_eq, decide_eq_true_eq] at hz'
  obtain ⟨hsz, ⟨a1, a2⟩, ⟨a3, a4⟩, ⟨a5, a6⟩, a7, a8⟩ := hz'
  let M0 : AMem := M.new (.cells (N5 0) 0 .yes)
  have k0 : Keeps M.next M M0 := Keeps.new _ (Nat.le_refl _)
  have S0 := S.moved k0
  have g0 : M0.get M.next = some (.cells (N5 0) 0 .yes) := by show (M.new _).get _ = _; rw [AMem.get_new, if_pos rfl]
  have hn0 : M0.next = M.next + 1 := rfl
  have slt := S.slt
  have plt := S.plt
  have rlt := S.rlt
  have cls := S.cls
  have clp := S.clp
  have clr := S.clr
  have dlo := S.dlo
  have ilo := S.ilo
  have b1 := S.b1
  have b2 := S.b2
  have b3 := S.b3
  have b4 := S.b4
  have b5 := S.b5
  by_cases hc : i = 0 ∨ c0 ≤ i
  · have hth := sthere_run' hF S0.get i0 i1 (m := m) (by omega)
    rw [if_pos hc] at hth
    let M1 : AMem := M0.set M.next (.cells (N5 0) 0 .yes)
    have k1 : Keeps M.next M M1 := k0.trans (Keeps.set (M := M0) _ (Nat.le_refl _)) (Nat.le_refl _)
    have r1 : M1.row M.next = some (N5 0) := row_cells (s := 0) (l := .yes) (by show (M0.set _ _).get _ = _; rw [AMem.get_set, if_pos rfl])
    refine ⟨M1, ?_, S.moved k1, k1.next, fun t ht h1 => k1.get _ (by omega)⟩
    rw [acall_run Tryz.func12 (hF 12 rfl), load_eq, show acall Tryz.prog H m 28 [.ptr (some (s, 0)), .int .u32 i] (M.new (ABlk.cells [AV.int IntKind.i64 0, AV.slice none 0 (some 0), AV.slice none 0 (some 0), AV.slice none 0 (some 0), AV.slice none 0 (some 0)] 0 Cl.yes)) = _ from hth]
    rw [bO, aI, show (!eqI 4 0) = true from rfl, iT, put5 (X := M0) g0, bO]
    rw [show (M0.set M.next (ABlk.cells (N5 0) 0 Cl.yes)).row M.next = _ from r1]
    rw [bO, take5, bO, aG, aC, aI, aC, aL, aC, aL, aC, aL, aC, aL, aN]
    unfold errOf
    rw [if_pos hc]
  · have key : ∃ b F, c2.toNat = F + 1 ∧ F ≤ 100 ∧ ∃ M1, acall Tryz.prog H m 29 [.ptr (some (c, 0)), .int .u32 i] (M.new (.cells (N5 0) 0 .yes)) = some (.int .i64 0, M1) ∧ CacheHas M1 lo d c h lk fr mp b F c1.toNat i 1 ∧ ChIs M1 h lk (F + 1) ∧ DevIs M1 d img c0 c1 1 0 ∧ M.next + 1 ≤ M1.next ∧ ∀ t, t < M.next + 1 → t ≠ c → t ≠ fr → t ≠ mp → t ≠ d → t ≠ h → t ≠ lk → M1.get t = (M.new (.cells (N5 0) 0 .yes)).get t := by
      rcases S0.st with ⟨cc, hd⟩ | ⟨b, F, hF2, hc2, ho, hd⟩
      · obtain ⟨F, hF2⟩ : ∃ F, c2.toNat = F + 1 := ⟨c2.toNat - 1, by omega⟩
        rw [hF2] at cc
        obtain ⟨k, b, M1, r1, gc1, gf1, gm1, hch1, hd1, gb1, hb1, hb2, n1, e1⟩ := pin_run hF cc hd (by omega) (i := i) (by omega) (by omega) dlo ilo (m := m) (by omega)
        exact ⟨b, F, hF2, by omega, M1, r1, ⟨⟨_, _, _, gc1⟩, gf1, gm1, gb1, hb2, by omega, b1, b2, b3, b4, b5⟩, hch1, hd1, n1, fun t q0 q1 q2 q3 q4 q5 q6 => e1 t q0 q1 q2 q3 q4⟩
      · obtain ⟨M1, r1, h1, hch1, n1, e1⟩ := pin1_run hF (by omega) hc2 ho hd i0 (by omega) (m := m) (by omega)
        have hdl := hd.lt
        have hdi := hd.ilt
        exact ⟨b, F, hF2, by omega, M1, r1, h1, hch1, hd.same (e1 _ hdl (by omega) (by omega) (by omega)) (e1 _ hdi (by omega) (by omega) (by omega)) n1, n1, fun t q0 q1 q2 q3 q4 q5 q6 => e1 t q0 q5 q6 q2⟩
    obtain ⟨b, F, hF2, f2, hp⟩ := key
    obtain ⟨M', r', h', o', d', n', e'⟩ := load_pinned hF S.right f2 S.get slt cls dlo ilo i0 i1 hc (m := m) (by omega) hp
    refine ⟨M', ?_, ⟨by rw [e' _ slt (by omega) (by omega) (by omega) (by omega) (by omega) (by omega)]; exact S.get, by rw [e' _ plt (by omega) (by omega) (by omega) (by omega) (by omega) (by omega)]; exact S.pool, by rw [e' _ rlt (by omega) (by omega) (by omega) (by omega) (by omega) (by omega)]; exact S.row, by omega, by omega, by omega, cls, clp, clr, dlo, ilo, S.right, b1, b2, b3, b4, b5, .inr ⟨b, F, hF2, h', o', d'⟩⟩, n', fun t ht h1 => e' t (by omega) (by omega) (by omega) (by omega) h1 (by omega) (by omega)⟩
    rw [r']
    unfold errOf
    rw [if_neg hc]

theorem left_run {M : AMem} {lo s d img c h lk fr mp p r wd : Nat} {c0 c1 c2 c3 c4 c5 c6 c7 i : Int} (S : ShB M lo s d img c h lk fr mp p r wd c0 c1 c2 c3 c4 c5 c6 c7 i) {m : Nat} (hm : 3 ≤ m) :
    acall Tryz.prog H m 11 [.ptr (some (s, 0))] M = some (.int .i64 (c0 - 1), M) := by
  obtain ⟨m, rfl⟩ : ∃ k, m = k + 1 := ⟨m - 1, by omega⟩
  have hz' := S.right
  unfold rightZ at hz'
  simp only [Bool.and_eq_true, leI_eq, decide_eq_true_eq] at hz'
  obtain ⟨hsz, ⟨a1, a2⟩, ⟨a3, a4⟩, ⟨a5, a6⟩, a7, a8⟩ := hz'
  have hf : acall Tryz.prog H m 27 [.ptr (some (p, 0))] M = some (.int .i64 (c0 - 1), M) := by
    obtain ⟨m, rfl⟩ : ∃ k, m = k + 1 := ⟨m - 1, by omega⟩
    have h1 : acall Tryz.prog H m 60 [.ptr (some (p, 0))] M = some (.bool false, M) := by
      obtain ⟨m, rfl⟩ : ∃ k, m = k + 1 := ⟨m - 1, by omega⟩
      rw [acall_run Tryz.func60 (hF 60 rfl), pnone_eq, row_cells S.pool]
      rfl
    have h2 : acall Tryz.prog H m 61 [.ptr (some (r, 0))] M = some (.int .i64 c0, M) := by
      obtain ⟨m, rfl⟩ : ∃ k, m = k + 1 := ⟨m - 1, by omega⟩
      rw [acall_run Tryz.func61 (hF 61 rfl), bitslen_eq, row_cells S.row]
      rfl
    have h3 : acall Tryz.prog H m 62 [.ptr (some (r, 0))] M = some (.int .i64 1, M) := by
      obtain ⟨m, rfl⟩ : ∃ k, m = k + 1 := ⟨m - 1, by omega⟩
      rw [acall_run Tryz.func62 (hF 62 rfl), bitscount_eq, row_cells S.row]
      rfl
    rw [acall_run Tryz.func27 (hF 27 rfl), pfree_eq, h1]
    simp only [bO, aB, iF, row_cells S.pool, List.getElem?_cons_zero, aP]
    rw [h2]
    simp only [bO, aI, row_cells S.pool, List.getElem?_cons_zero, aP, beqA_ptr, nT]
    rw [h3]
    simp only [bO, aI, forceI_eq]
    rw [wrap_i64 (x := c0 - 1) (by omega) (by omega)]
  rw [acall_run Tryz.func11 (hF 11 rfl), left_eq, row_cells S.get]
  simp only [bO, List.getElem?_cons_zero, List.getElem?_cons_succ, aP]
  rw [hf]
  rfl
end
end Go.Proofs.YtfpgakjikmakkaaGreatDoor

/-
  Road, Raise and Drain of no shelf, and of a block that is no node; Great.
-/
namespace Go.Proofs.YtfpgakjikmakkaaGreatDoor
open Go.Ab
set_option linter.unusedVariables false
set_option linter.unusedSimpArgs false
set_option linter.unusedSectionVars false
set_option maxRecDepth 100000

theorem put8 {X : AMem} {p : Nat} {a b c d e f g i : AV} (h : X.get p = some (.cells [a, b, c, d, e, f, g, i] 0 .yes)) (a' b' c' d' e' f' g' i' : AV) :
    (getCells (X.get p) fun c sz cl => bindO (if 0 + 8 ≤ c.length then some (a' :: b' :: c' :: d' :: e' :: f' :: g' :: i' :: List.drop (0 + 8) c) else none) fun a => needB ((Cl.fzn cl).ble 0) (some (X.set p (ABlk.cells a sz cl)))) = some (X.set p (.cells [a', b', c', d', e', f', g', i'] 0 .yes)) := by
  rw [h]; rfl
theorem put8' {X : AMem} {p : Nat} {a b c d e f g i : AV} (h : X.get p = some (.cells [a, b, c, d, e, f, g, i] 0 .yes)) (a' b' c' d' e' f' g' i' : AV) :
    (getCells (X.get p) fun c sz cl => bindO (if 0 + (1 + 1 + 1 + 1 + 1 + 1 + 1 + 1) ≤ c.length then some (a' :: b' :: c' :: d' :: e' :: f' :: g' :: i' :: List.drop (0 + (1 + 1 + 1 + 1 + 1 + 1 + 1 + 1)) c) else none) fun a => needB ((Cl.fzn cl).ble 0) (some (X.set p (ABlk.cells a sz cl)))) = some (X.set p (.cells [a', b', c', d', e', f', g', i'] 0 .yes)) := by
  rw [h]; rfl

theorem fresh_get (M : AMem) (B : ABlk) : (M.new B).get M.next = some B := by rw [AMem.get_new, if_pos rfl]
theorem fresh_keeps (M : AMem) (B B' : ABlk) : Keeps M.next M ((M.new B).set M.next B') := (Keeps.new (M := M) B (Nat.le_refl _)).trans (Keeps.set (M := M.new B) B' (Nat.le_refl _)) (Nat.le_refl _)
theorem fresh_row (M : AMem) (B : ABlk) (cs : List AV) : ((M.new B).set M.next (.cells cs 0 .yes)).row M.next = some cs := row_cells (s := 0) (l := .yes) (by rw [AMem.get_set, if_pos rfl])

section
variable {H : Hook} (hF : Free H)
include hF

theorem loadN_run (i : Int) (M : AMem) {m : Nat} (hm : 2 ≤ m) : ∃ M', acall Tryz.prog H m 12 [.ptr none, .int .u32 i] M = some (.tup [.agg (N5 0), .int .i64 1], M') ∧ Keeps M.next M M' := by
  obtain ⟨m, rfl⟩ : ∃ k, m = k + 1 := ⟨m - 1, by omega⟩
  let M0 : AMem := M.new (.cells (N5 0) 0 .yes)
  have h1 : acall Tryz.prog H m 28 [.ptr none, .int .u32 i] M0 = some (.int .i64 1, M0) := by
    obtain ⟨m, rfl⟩ : ∃ k, m = k + 1 := ⟨m - 1, by omega⟩
    rw [acall_run Tryz.func28 (hF 28 rfl), sthereN_eq]
  refine ⟨M0.set M.next (.cells (N5 0) 0 .yes), ?_, fresh_keeps M _ _⟩
  rw [acall_run Tryz.func12 (hF 12 rfl), loadN_eq, show acall Tryz.prog H m 28 [.ptr none, .int .u32 i] (M.new (ABlk.cells [AV.int IntKind.i64 0, AV.slice none 0 (some 0), AV.slice none 0 (some 0), AV.slice none 0 (some 0), AV.slice none 0 (some 0)] 0 Cl.yes)) = _ from h1]
  rw [bO, aI, show (!eqI 1 0) = true from rfl, iT, put5 (X := M0) (fresh_get M _), bO]
  rw [show (M0.set M.next (ABlk.cells (N5 0) 0 Cl.yes)).row M.next = _ from fresh_row M _ _]
  rw [bO, take5, bO, aG, aC, aI, aC, aL, aC, aL, aC, aL, aC, aL, aN]

theorem configN_run (M : AMem) {m : Nat} (hm : 1 ≤ m) : ∃ M', acall Tryz.prog H m 13 [.ptr none] M = some (.agg (C8 0 0 0 0 0 0 0 0), M') ∧ Keeps M.next M M' := by
  obtain ⟨m, rfl⟩ : ∃ k, m = k + 1 := ⟨m - 1, by omega⟩
  refine ⟨(M.new (.cells (C8 0 0 0 0 0 0 0 0) 0 .yes)).set M.next (.cells (C8 0 0 0 0 0 0 0 0) 0 .yes), ?_, fresh_keeps M _ _⟩
  rw [acall_run Tryz.func13 (hF 13 rfl), configN_eq, put8 (fresh_get M _), bO]
  rw [show ((M.new (ABlk.cells (C8 0 0 0 0 0 0 0 0) 0 Cl.yes)).set M.next (ABlk.cells (C8 0 0 0 0 0 0 0 0) 0 Cl.yes)).row M.next = _ from fresh_row M _ _]
  rw [bO, take8, bO, aG, aC, aI, aC, aI, aC, aI, aC, aI, aC, aI, aC, aI, aC, aI, aC, aI, aN]

theorem config_run {M : AMem} {s d c p : Nat} {c0 c1 c2 c3 c4 c5 c6 c7 : Int} (gs : M.get s = some (.cells (shelfC c0 c1 c2 c3 c4 c5 c6 c7 d c p) 0 .yes)) (hs : s < M.next) {m : Nat} (hm : 1 ≤ m) : ∃ M', acall Tryz.prog H m 13 [.ptr (some (s, 0))] M = some (.agg (C8 c0 c1 c2 c3 c4 c5 c6 c7), M') ∧ Keeps M.next M M' := by
  obtain ⟨m, rfl⟩ : ∃ k, m = k + 1 := ⟨m - 1, by omega⟩
  refine ⟨(M.new (.cells (C8 0 0 0 0 0 0 0 0) 0 .yes)).set M.next (.cells (C8 c0 c1 c2 c3 c4 c5 c6 c7) 0 .yes), ?_, fresh_keeps M _ _⟩
  have k0 : Keeps M.next M (M.new (.cells (C8 0 0 0 0 0 0 0 0) 0 .yes)) := Keeps.new _ (Nat.le_refl _)
  rw [acall_run Tryz.func13 (hF 13 rfl), config_eq]
  rw [show (M.new (ABlk.cells [AV.int IntKind.i64 0, AV.int IntKind.i64 0, AV.int IntKind.i64 0, AV.int IntKind.i64 0, AV.int IntKind.i64 0, AV.int IntKind.i64 0, AV.int IntKind.i64 0, AV.int IntKind.i64 0] 0 Cl.yes)).row s = some (shelfC c0 c1 c2 c3 c4 c5 c6 c7 d c p) from row_cells (by rw [k0.get _ hs]; exact gs)]
  rw [bO, if_pos (show 0 + 8 ≤ (shelfC c0 c1 c2 c3 c4 c5 c6 c7 d c p).length by show 0 + 8 ≤ 12; omega)]
  rw [show List.take 8 (List.drop 0 (shelfC c0 c1 c2 c3 c4 c5 c6 c7 d c p)) = C8 c0 c1 c2 c3 c4 c5 c6 c7 from rfl]
  rw [bO, aG, aC, aI, aC, aI, aC, aI, aC, aI, aC, aI, aC, aI, aC, aI, aC, aI, aN]
  rw [put8' (fresh_get M _), bO]
  rw [show ((M.new (ABlk.cells (C8 0 0 0 0 0 0 0 0) 0 Cl.yes)).set M.next (ABlk.cells (C8 c0 c1 c2 c3 c4 c5 c6 c7) 0 Cl.yes)).row M.next = _ from fresh_row M _ _]
  rw [bO, take8, bO, aG, aC, aI, aC, aI, aC, aI, aC, aI, aC, aI, aC, aI, aC, aI, aC, aI, aN]

/-- Road, behind its Load and Config -/
theorem roadN_run (i : Int) (M : AMem) {m : Nat} (hm : 3 ≤ m) : ∃ M', acall Tryz.prog H m 4 [.ptr none, .int .u32 i] M = some (.tup [.slice none 0 (some 0), .int .i64 1], M') ∧ Keeps M.next M M' := by
  obtain ⟨m, rfl⟩ : ∃ k, m = k + 1 := ⟨m - 1, by omega⟩
  obtain ⟨M1, r1, k1⟩ := loadN_run hF i M (m := m) (by omega)
  let M2 : AMem := (M1.new (.cells (N5 0) 0 .yes)).set M1.next (.cells (N5 0) 0 .yes)
  have k2 : Keeps M1.next M1 M2 := fresh_keeps M1 _ _
  obtain ⟨M3, r3, k3⟩ := configN_run hF M2 (m := m) (by omega)
  refine ⟨(M3.new (.cells (C8 0 0 0 0 0 0 0 0) 0 .yes)).set M3.next (.cells (C8 0 0 0 0 0 0 0 0) 0 .yes), ?_, ((k1.trans k2 k1.next).trans k3 (Nat.le_trans k1.next k2.next)).trans (fresh_keeps M3 _ _) (Nat.le_trans (Nat.le_trans k1.next k2.next) k3.next)⟩
  rw [acall_run Tryz.func4 (hF 4 rfl), roadN_eq, r1, bO, aT, aC, aG, aC, aI, aC, aL, aC, aL, aC, aL, aC, aL, aN, aC, aI, aN]
  rw [put5' (fresh_get M1 _), bO]
  rw [show acall Tryz.prog H m 13 [.ptr none] ((M1.new (ABlk.cells (N5 0) 0 Cl.yes)).set M1.next (ABlk.cells (N5 0) 0 Cl.yes)) = _ from r3]
  rw [bO, aG, aC, aI, aC, aI, aC, aI, aC, aI, aC, aI, aC, aI, aC, aI, aC, aI, aN]
  rw [put8' (fresh_get M3 _), bO, show (!eqI 1 0) = true from rfl, iT]

theorem road_run {M : AMem} {lo s d img c h lk fr mp p r wd : Nat} {c0 c1 c2 c3 c4 c5 c6 c7 i : Int} (S : ShB M lo s d img c h lk fr mp p r wd c0 c1 c2 c3 c4 c5 c6 c7 i) (i0 : 0 ≤ i) (i1 : i < 4294967296) {m : Nat} (hm : 31 ≤ m) :
    ∃ M', acall Tryz.prog H m 4 [.ptr (some (s, 0)), .int .u32 i] M = some (.tup [.slice none 0 (some 0), .int .i64 (errOf c0 i)], M') ∧ ShB M' lo s d img c h lk fr mp p r wd c0 c1 c2 c3 c4 c5 c6 c7 i ∧ M.next ≤ M'.next ∧ ∀ t, t < lo → t ≠ d → M'.get t = M.get t := by
  obtain ⟨m, rfl⟩ : ∃ k, m = k + 1 := ⟨m - 1, by omega⟩
  obtain ⟨M1, r1, S1, n1, e1⟩ := load_all hF S i0 i1 (m := m) (by omega)
  let M2 : AMem := (M1.new (.cells (N5 0) 0 .yes)).set M1.next (.cells (N5 0) 0 .yes)
  have k2 : Keeps M1.next M1 M2 := fresh_keeps M1 _ _
  have S2 := S1.moved k2
  obtain ⟨M3, r3, k3⟩ := config_run hF S2.get S2.slt (m := m) (by omega)
  have k4 : Keeps M1.next M1 ((M3.new (.cells (C8 0 0 0 0 0 0 0 0) 0 .yes)).set M3.next (.cells (C8 c0 c1 c2 c3 c4 c5 c6 c7) 0 .yes)) := (k2.trans k3 k2.next).trans (fresh_keeps M3 _ _) (Nat.le_trans k2.next k3.next)
  have hlo : lo ≤ M1.next := by
    have := S1.b1
    have := S1.b2
    have := S1.b3
    have := S1.b4
    have := S1.b5
    have := S1.cls
    have := S1.slt
    omega
  refine ⟨_, ?_, S1.moved k4, Nat.le_trans n1 k4.next, fun t ht h1 => by rw [k4.get _ (by omega), e1 t ht h1]⟩
  rw [acall_run Tryz.func4 (hF 4 rfl), road_eq, r1, bO, aT, aC, aG, aC, aI, aC, aL, aC, aL, aC, aL, aC, aL, aN, aC, aI, aN]
  rw [put5' (fresh_get M1 _), bO]
  rw [show acall Tryz.prog H m 13 [.ptr (some (s, 0))] ((M1.new (ABlk.cells (N5 0) 0 Cl.yes)).set M1.next (ABlk.cells (N5 0) 0 Cl.yes)) = _ from r3]
  rw [bO, aG, aC, aI, aC, aI, aC, aI, aC, aI, aC, aI, aC, aI, aC, aI, aC, aI, aN]
  rw [put8' (fresh_get M3 _), bO, errOf_ne, iT]

theorem raiseN_run (i lv : Int) (ka pa ba ra : Option (Nat × Nat)) (kl pl bl rl : Nat) (kc pc bc rc : Option Nat) (M : AMem) {m : Nat} (hm : 3 ≤ m) : ∃ M', acall Tryz.prog H m 5 [.ptr none, .int .u32 i, .agg [.int .i64 lv, .slice ka kl kc, .slice pa pl pc, .slice ba bl bc, .slice ra rl rc]] M = some (.tup [.int .u32 0, .int .i64 1], M') ∧ Keeps M.next M M' := by
  obtain ⟨m, rfl⟩ : ∃ k, m = k + 1 := ⟨m - 1, by omega⟩
  have k0 : Keeps M.next M (M.new (.cells [AV.int IntKind.i64 lv, AV.slice ka kl kc, AV.slice pa pl pc, AV.slice ba bl bc, AV.slice ra rl rc] 0 .yes)) := Keeps.new _ (Nat.le_refl _)
  obtain ⟨M1, r1, k1⟩ := loadN_run hF i (M.new (.cells [AV.int IntKind.i64 lv, AV.slice ka kl kc, AV.slice pa pl pc, AV.slice ba bl bc, AV.slice ra rl rc] 0 .yes)) (m := m) (by omega)
  refine ⟨_, ?_, (k0.trans k1 k0.next).trans (fresh_keeps M1 (.cells (N5 0) 0 .yes) (.cells (N5 0) 0 .yes)) (Nat.le_trans k0.next k1.next)⟩
  rw [acall_run Tryz.func5 (hF 5 rfl), raiseN_eq, r1, bO, aT, aC, aG, aC, aI, aC, aL, aC, aL, aC, aL, aC, aL, aN, aC, aI, aN]
  rw [put5' (fresh_get M1 _), bO, show (!eqI 1 0) = true from rfl, iT]

theorem raise_run {M : AMem} {lo s d img c h lk fr mp p r wd : Nat} {c0 c1 c2 c3 c4 c5 c6 c7 i : Int} (S : ShB M lo s d img c h lk fr mp p r wd c0 c1 c2 c3 c4 c5 c6 c7 i) (i0 : 0 ≤ i) (i1 : i < 4294967296) (lv : Int) (ka pa ba ra : Option (Nat × Nat)) (kl pl bl rl : Nat) (kc pc bc rc : Option Nat) {m : Nat} (hm : 31 ≤ m) :
    ∃ M', acall Tryz.prog H m 5 [.ptr (some (s, 0)), .int .u32 i, .agg [.int .i64 lv, .slice ka kl kc, .slice pa pl pc, .slice ba bl bc, .slice ra rl rc]] M = some (.tup [.int .u32 0, .int .i64 (errOf c0 i)], M') ∧ ShB M' lo s d img c h lk fr mp p r wd c0 c1 c2 c3 c4 c5 c6 c7 i ∧ M.next ≤ M'.next ∧ ∀ t, t < lo → t ≠ d → M'.get t = M.get t := by
  obtain ⟨m, rfl⟩ : ∃ k, m = k + 1 := ⟨m - 1, by omega⟩
  have k0 : Keeps M.next M (M.new (.cells [AV.int IntKind.i64 lv, AV.slice ka kl kc, AV.slice pa pl pc, AV.slice ba bl bc, AV.slice ra rl rc] 0 .yes)) := Keeps.new _ (Nat.le_refl _)
  have S0 := S.moved k0
  obtain ⟨M1, r1, S1, n1, e1⟩ := load_all hF S0 i0 i1 (m := m) (by omega)
  have k2 : Keeps M1.next M1 ((M1.new (.cells (N5 0) 0 .yes)).set M1.next (.cells (N5 0) 0 .yes)) := fresh_keeps M1 _ _
  have hlo : lo ≤ M.next := by
    have := S.b1
    have := S.b2
    have := S.b3
    have := S.b4
    have := S.b5
    have := S.cls
    have := S.slt
    omega
  have hn0 := k0.next
  refine ⟨_, ?_, S1.moved k2, Nat.le_trans (Nat.le_trans k0.next n1) k2.next, fun t ht h1 => by rw [k2.get _ (by omega), e1 t ht h1, k0.get _ (by omega)]⟩
  rw [acall_run Tryz.func5 (hF 5 rfl), raise_eq, r1, bO, aT, aC, aG, aC, aI, aC, aL, aC, aL, aC, aL, aC, aL, aN, aC, aI, aN]
  rw [put5' (fresh_get M1 _), bO, errOf_ne, iT]

theorem drainN_run (i : Int) (M : AMem) {m : Nat} (hm : 3 ≤ m) : ∃ M', acall Tryz.prog H m 6 [.ptr none, .int .u32 i] M = some (.tup [.int .u32 0, .int .i64 0, .int .i64 1], M') ∧ Keeps M.next M M' := by
  obtain ⟨m, rfl⟩ : ∃ k, m = k + 1 := ⟨m - 1, by omega⟩
  obtain ⟨M1, r1, k1⟩ := loadN_run hF i M (m := m) (by omega)
  refine ⟨_, ?_, k1.trans (fresh_keeps M1 (.cells (N5 0) 0 .yes) (.cells (N5 0) 0 .yes)) k1.next⟩
  rw [acall_run Tryz.func6 (hF 6 rfl), drain_eq, r1, bO, aT, aC, aG, aC, aI, aC, aL, aC, aL, aC, aL, aC, aL, aN, aC, aI, aN]
  rw [put5' (fresh_get M1 _), bO, drain_sw1, drain_ret1]

theorem drain_run {M : AMem} {lo s d img c h lk fr mp p r wd : Nat} {c0 c1 c2 c3 c4 c5 c6 c7 i : Int} (S : ShB M lo s d img c h lk fr mp p r wd c0 c1 c2 c3 c4 c5 c6 c7 i) (i0 : 0 ≤ i) (i1 : i < 4294967296) {m : Nat} (hm : 31 ≤ m) :
    ∃ M', acall Tryz.prog H m 6 [.ptr (some (s, 0)), .int .u32 i] M = some (.tup [.int .u32 0, .int .i64 0, .int .i64 (errOf c0 i)], M') ∧ ShB M' lo s d img c h lk fr mp p r wd c0 c1 c2 c3 c4 c5 c6 c7 i ∧ M.next ≤ M'.next ∧ ∀ t, t < lo → t ≠ d → M'.get t = M.get t := by
  obtain ⟨m, rfl⟩ : ∃ k, m = k + 1 := ⟨m - 1, by omega⟩
  obtain ⟨M1, r1, S1, n1, e1⟩ := load_all hF S i0 i1 (m := m) (by omega)
  have k2 : Keeps M1.next M1 ((M1.new (.cells (N5 0) 0 .yes)).set M1.next (.cells (N5 0) 0 .yes)) := fresh_keeps M1 _ _
  have hlo : lo ≤ M1.next := by
    have := S1.b1
    have := S1.b2
    have := S1.b3
    have := S1.b4
    have := S1.b5
    have := S1.cls
    have := S1.slt
    omega
  refine ⟨_, ?_, S1.moved k2, Nat.le_trans n1 k2.next, fun t ht h1 => by rw [k2.get _ (by omega), e1 t ht h1]⟩
  rw [acall_run Tryz.func6 (hF 6 rfl), drain_eq, r1, bO, aT, aC, aG, aC, aI, aC, aL, aC, aL, aC, aL, aC, aL, aN, aC, aI, aN]
  rw [put5' (fresh_get M1 _), bO]
  unfold errOf
  by_cases hc : i = 0 ∨ c0 ≤ i
  · rw [if_pos hc, drain_sw4, drain_ret4]
  · rw [if_neg hc, drain_sw12, drain_ret12]
end
end Go.Proofs.YtfpgakjikmakkaaGreatDoor

/-
  Great of any node answers.
-/
namespace Go.Proofs.YtfpgakjikmakkaaGreatDoor
open Go.Ab
set_option linter.unusedVariables false
set_option linter.unusedSimpArgs false
set_option linter.unusedSectionVars false
set_option maxRecDepth 100000

abbrev Txt := List UInt8
def strE : Elt Txt 1 := ⟨fun x => [.string ⟨x.toArray⟩], fun x => [.str x], fun _ => rfl, fun _ => rfl, fun _ x => VL.cons (VR.str_mk x) (VL.nil _)⟩
def u32E : Elt Int 1 := ⟨fun x => [.int .u32 x], fun x => [.int .u32 x], fun _ => rfl, fun _ => rfl, fun _ x => VL.cons (.int _ _) (VL.nil _)⟩
def pairE : Elt (Txt × Txt) 2 := ⟨fun x => [.string ⟨x.1.toArray⟩, .string ⟨x.2.toArray⟩], fun x => [.str x.1, .str x.2], fun _ => rfl, fun _ => rfl, fun _ x => VL.cons (VR.str_mk x.1) (VL.cons (VR.str_mk x.2) (VL.nil _))⟩
def msgE : Elt (Txt × Bool × Txt) 3 := ⟨fun x => [.string ⟨x.1.toArray⟩, .bool x.2.1, .string ⟨x.2.2.toArray⟩], fun x => [.str x.1, .bool x.2.1, .str x.2.2], fun _ => rfl, fun _ => rfl, fun _ x => VL.cons (VR.str_mk x.1) (VL.cons (.bool _) (VL.cons (VR.str_mk x.2.2) (VL.nil _)))⟩

theorem strE_at {xs : List Txt} {j : Nat} (h : j < xs.length) : (strE.cells xs)[0 + j * 1]? = some (.str xs[j]) := by
  have e := strE.cells_get xs j 0 (by omega)
  rw [Nat.add_zero] at e
  rw [Nat.zero_add, e, List.getElem?_eq_getElem h]
  rfl
theorem msgE_at {xs : List (Txt × Bool × Txt)} {j : Nat} (h : j < xs.length) : (msgE.cells xs)[0 + j * 3 + 0]? = some (.str xs[j].1) := by
  have e := msgE.cells_get xs j 0 (by omega)
  rw [Nat.zero_add, e, List.getElem?_eq_getElem h]
  rfl
theorem pairE_at {xs : List (Txt × Txt)} {j : Nat} (h : j < xs.length) : (pairE.cells xs)[0 + j * 2 + 0]? = some (.str xs[j].1) := by
  have e := pairE.cells_get xs j 0 (by omega)
  rw [Nat.zero_add, e, List.getElem?_eq_getElem h]
  rfl

/-- the node's value -/
abbrev nodeA (lv : Int) (ka pa ba ra : Option (Nat × Nat)) (kl pl bl rl : Nat) (kc pc bc rc : Option Nat) : List AV := [.int .i64 lv, .slice ka kl kc, .slice pa pl pc, .slice ba bl bc, .slice ra rl rc]

section
variable {H : Hook} (hF : Free H)
include hF

theorem great_loop2 {lv x16 x17 : Int} {ka pa ba ra : Option (Nat × Nat)} {kl pl bl rl : Nat} {kc pc bc rc : Option Nat} {M : AMem} {q m : Nat} {xs : List (Txt × Txt)} (hr : M.row q = some (nodeA lv ka pa ba ra kl pl bl rl kc pc bc rc)) (hx : pairE.In M ra rl xs) (h6 : rl ≤ 150) : ∀ (k j y : Nat), j + k = rl → k < y →
    ∃ b, runLoop Tryz.prog H Tryz.f8 2 [0, 2, 3, 4, 5, 1] m y (mkFr [(0, .agg (nodeA lv ka pa ba ra kl pl bl rl kc pc bc rc)), (1, .ptr (some (q, 0))), (2, .bool false), (3, .int .i64 x16), (4, .int .i64 x17), (5, .int .i64 (j : Int))]) M (afterLoop Tryz.prog H Tryz.f8 2 m) = some (.bool b, M) := by
  intro k
  induction k with
  | zero =>
    intro j y hj hy
    obtain ⟨y, rfl⟩ : ∃ x, y = x + 1 := ⟨y - 1, by omega⟩
    refine ⟨false, ?_⟩
    rw [runLoop_succ, greatLL1L2_body]
    simp only [bO, hr, List.getElem?_cons_zero, List.getElem?_cons_succ, aL]
    rw [ltI_eq, decide_eq_false (by omega), iF, onward_exit, greatLL1L2_end4]
  | succ k ih =>
    intro j y hj hy
    obtain ⟨y, rfl⟩ : ∃ x, y = x + 1 := ⟨y - 1, by omega⟩
    rcases hx.is with h0 | ⟨a, rfl, ha, hrow⟩
    · omega
    have hlen := hx.len
    rw [runLoop_succ, greatLL1L2_body]
    simp only [bO, hr, List.getElem?_cons_zero, List.getElem?_cons_succ, aL]
    rw [ltI_eq, decide_eq_true (show (j : Int) < (rl : Int) by omega), iT, decide_eq_true (show (0 : Int) ≤ (j : Int) by omega)]
    simp only [Bool.and_self, nT, bO, hrow, Int.toNat_natCast, pairE_at (show j < xs.length by omega), aS]
    by_cases h2 : (200 : Int) < ((xs[j]'(by omega)).1.length : Int)
    · rw [ltI_eq, decide_eq_true h2, iT, onward_ret, greatLL1L2_ret]
      exact ⟨true, rfl⟩
    · rw [ltI_eq, decide_eq_false h2, iF]
      simp only [forceI_eq]
      rw [wrap_i64 (x := (j : Int) + 1) (by omega) (by omega), onward_normal]
      exact ih (j + 1) y (by omega) (by omega)

theorem great_loop1 {lv x16 : Int} {ka pa ba ra : Option (Nat × Nat)} {kl pl bl rl : Nat} {kc pc bc rc : Option Nat} {M : AMem} {q m : Nat} {xs : List (Txt × Bool × Txt)} {ys : List (Txt × Txt)} (hr : M.row q = some (nodeA lv ka pa ba ra kl pl bl rl kc pc bc rc)) (hx : msgE.In M ba bl xs) (hy : pairE.In M ra rl ys) (h6 : bl ≤ 150) (h7 : rl ≤ 150) (hm : 200 ≤ m) : ∀ (k j y : Nat), j + k = bl → k < y →
    ∃ b, runLoop Tryz.prog H Tryz.f8 1 [0, 2, 3, 4, 1] m y (mkFr [(0, .agg (nodeA lv ka pa ba ra kl pl bl rl kc pc bc rc)), (1, .ptr (some (q, 0))), (2, .bool false), (3, .int .i64 x16), (4, .int .i64 (j : Int))]) M (afterLoop Tryz.prog H Tryz.f8 1 m) = some (.bool b, M) := by
  intro k
  induction k with
  | zero =>
    intro j y hj hy'
    obtain ⟨y, rfl⟩ : ∃ x, y = x + 1 := ⟨y - 1, by omega⟩
    rw [runLoop_succ, greatLL1_body]
    simp only [bO, hr, List.getElem?_cons_zero, List.getElem?_cons_succ, aL]
    rw [ltI_eq, decide_eq_false (by omega), iF, onward_exit, greatLL1_end2]
    exact great_loop2 hF hr hy h7 rl 0 m (by omega) (by omega)
  | succ k ih =>
    intro j y hj hy'
    obtain ⟨y, rfl⟩ : ∃ x, y = x + 1 := ⟨y - 1, by omega⟩
    rcases hx.is with h0 | ⟨a, rfl, ha, hrow⟩
    · omega
    have hlen := hx.len
    rw [runLoop_succ, greatLL1_body]
    simp only [bO, hr, List.getElem?_cons_zero, List.getElem?_cons_succ, aL]
    rw [ltI_eq, decide_eq_true (show (j : Int) < (bl : Int) by omega), iT, decide_eq_true (show (0 : Int) ≤ (j : Int) by omega)]
    simp only [Bool.and_self, nT, bO, hrow, Int.toNat_natCast, msgE_at (show j < xs.length by omega), aS]
    by_cases h2 : (200 : Int) < ((xs[j]'(by omega)).1.length : Int)
    · rw [ltI_eq, decide_eq_true h2, iT, onward_ret, greatLL1_ret]
      exact ⟨true, rfl⟩
    · rw [ltI_eq, decide_eq_false h2, iF]
      simp only [forceI_eq]
      rw [wrap_i64 (x := (j : Int) + 1) (by omega) (by omega), onward_normal]
      exact ih (j + 1) y (by omega) (by omega)

theorem great_loop0 {lv : Int} {ka pa ba ra : Option (Nat × Nat)} {kl pl bl rl : Nat} {kc pc bc rc : Option Nat} {M : AMem} {q m : Nat} {ps : List Txt} {xs : List (Txt × Bool × Txt)} {ys : List (Txt × Txt)} (hr : M.row q = some (nodeA lv ka pa ba ra kl pl bl rl kc pc bc rc)) (hp : strE.In M pa pl ps) (hx : msgE.In M ba bl xs) (hy : pairE.In M ra rl ys) (h5 : pl ≤ 80) (h6 : bl ≤ 150) (h7 : rl ≤ 150) (hm : 200 ≤ m) : ∀ (k j y : Nat), j + k = pl → k < y →
    ∃ b, runLoop Tryz.prog H Tryz.f8 0 [0, 2, 3, 1] m y (mkFr [(0, .agg (nodeA lv ka pa ba ra kl pl bl rl kc pc bc rc)), (1, .ptr (some (q, 0))), (2, .bool false), (3, .int .i64 (j : Int))]) M (afterLoop Tryz.prog H Tryz.f8 0 m) = some (.bool b, M) := by
  intro k
  induction k with
  | zero =>
    intro j y hj hy'
    obtain ⟨y, rfl⟩ : ∃ x, y = x + 1 := ⟨y - 1, by omega⟩
    rw [runLoop_succ, greatL_body]
    simp only [bO, hr, List.getElem?_cons_zero, List.getElem?_cons_succ, aL]
    rw [ltI_eq, decide_eq_false (by omega), iF, onward_exit, greatL_end0]
    exact great_loop1 hF hr hx hy h6 h7 hm bl 0 m (by omega) (by omega)
  | succ k ih =>
    intro j y hj hy'
    obtain ⟨y, rfl⟩ : ∃ x, y = x + 1 := ⟨y - 1, by omega⟩
    rcases hp.is with h0 | ⟨a, rfl, ha, hrow⟩
    · omega
    have hlen := hp.len
    rw [runLoop_succ, greatL_body]
    simp only [bO, hr, List.getElem?_cons_zero, List.getElem?_cons_succ, aL]
    rw [ltI_eq, decide_eq_true (show (j : Int) < (pl : Int) by omega), iT, decide_eq_true (show (0 : Int) ≤ (j : Int) by omega)]
    simp only [Bool.and_self, nT, bO, hrow, Int.toNat_natCast, strE_at (show j < ps.length by omega), aS]
    by_cases h2 : (200 : Int) < ((ps[j]'(by omega)).length : Int)
    · rw [ltI_eq, decide_eq_true h2, iT, onward_ret, greatL_ret]
      exact ⟨true, rfl⟩
    · rw [ltI_eq, decide_eq_false h2, iF]
      simp only [forceI_eq]
      rw [wrap_i64 (x := (j : Int) + 1) (by omega) (by omega), onward_normal]
      exact ih (j + 1) y (by omega) (by omega)

theorem great_run {lv : Int} {ka pa ba ra : Option (Nat × Nat)} {kl pl bl rl : Nat} {kc pc bc rc : Option Nat} {M : AMem} {ps : List Txt} {xs : List (Txt × Bool × Txt)} {ys : List (Txt × Txt)} (hp : strE.In M pa pl ps) (hx : msgE.In M ba bl xs) (hy : pairE.In M ra rl ys) {m : Nat} (hm : 201 ≤ m) :
    ∃ b M', acall Tryz.prog H m 8 [.agg (nodeA lv ka pa ba ra kl pl bl rl kc pc bc rc)] M = some (.bool b, M') ∧ Keeps M.next M M' := by
  obtain ⟨m, rfl⟩ : ∃ k, m = k + 1 := ⟨m - 1, by omega⟩
  have k0 : Keeps M.next M (M.new (.cells (nodeA lv ka pa ba ra kl pl bl rl kc pc bc rc) 0 .yes)) := Keeps.new _ (Nat.le_refl _)
  have hr : (M.new (.cells (nodeA lv ka pa ba ra kl pl bl rl kc pc bc rc) 0 .yes)).row M.next = some (nodeA lv ka pa ba ra kl pl bl rl kc pc bc rc) := row_new _ _ _ _
  have key : ∃ b, acall Tryz.prog H (m + 1) 8 [.agg (nodeA lv ka pa ba ra kl pl bl rl kc pc bc rc)] M = some (.bool b, M.new (.cells (nodeA lv ka pa ba ra kl pl bl rl kc pc bc rc) 0 .yes)) := by
    rw [acall_run Tryz.func8 (hF 8 rfl), great_eq, hr]
    simp only [bO, List.getElem?_cons_zero, List.getElem?_cons_succ, aL]
    by_cases h1 : (80 : Int) < (kl : Int)
    · rw [ltI_eq, decide_eq_true h1, iT]; exact ⟨true, rfl⟩
    rw [ltI_eq, decide_eq_false h1, iF]
    by_cases h2 : (80 : Int) < (pl : Int)
    · rw [ltI_eq, decide_eq_true h2, iT]; exact ⟨true, rfl⟩
    rw [ltI_eq, decide_eq_false h2, iF]
    by_cases h3 : (150 : Int) < (bl : Int)
    · rw [ltI_eq, decide_eq_true h3, iT]; exact ⟨true, rfl⟩
    rw [ltI_eq, decide_eq_false h3, iF]
    by_cases h4 : (150 : Int) < (rl : Int)
    · rw [ltI_eq, decide_eq_true h4, iT]; exact ⟨true, rfl⟩
    rw [ltI_eq, decide_eq_false h4, iF]
    exact great_loop0 hF hr (Elt.In.moved _ hp k0.next k0.get) (Elt.In.moved _ hx k0.next k0.get) (Elt.In.moved _ hy k0.next k0.get) (by omega) (by omega) (by omega) (by omega) pl 0 m (by omega) (by omega)
  obtain ⟨b, e⟩ := key
  exact ⟨b, _, e, k0⟩
end
end Go.Proofs.YtfpgakjikmakkaaGreatDoor
