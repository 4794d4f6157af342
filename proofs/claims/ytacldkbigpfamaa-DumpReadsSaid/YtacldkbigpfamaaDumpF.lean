/-
  What the small functions do: bytes, digits, strings.Cut.
-/
import Derived.Test.YtacldkbigpfamaaDumpB
namespace Go.Proofs.Ytacldkbigpfamaa
open Go.Ab Go.Words
set_option linter.unusedVariables false
set_option linter.unusedSimpArgs false

theorem plain_run (x : UInt8) {M : AMem} {m : Nat} (hm : 1 ≤ m) : call m 20 [.int .u8 x.toNat] M = some (.bool (plainB x), M) := by
  obtain ⟨m, rfl⟩ : ∃ k, m = k + 1 := ⟨m - 1, by omega⟩
  rw [call, acall_run Try.func20 (hk (by decide)), plain_eq]
  simp only [leL33, leR126, eqR37, eqR61]
  unfold plainB
  rw [show (x.toNat == 37) = decide (x.toNat = 37) from rfl, show (x.toNat == 61) = decide (x.toNat = 61) from rfl]
  cases decide (33 ≤ x.toNat) <;> cases decide (x.toNat ≤ 126) <;> cases decide (x.toNat = 37) <;> cases decide (x.toNat = 61) <;> rfl

theorem dig_all : ∀ n : Fin 16, IntKind.u8.wrap ((n.val : Int) + 1) = ((n.val + 1 : Nat) : Int) := by decide
theorem digit_run {n : Nat} (h : n < 16) {M : AMem} {m : Nat} (hm : 1 ≤ m) : call m 24 [.int .u8 n] M = some (.str [hexD n], M) := by
  obtain ⟨m, rfl⟩ : ∃ k, m = k + 1 := ⟨m - 1, by omega⟩
  rw [call, acall_run Try.func24 (hk (by decide)), digit_eq]
  simp only [forceI_eq, dig_all ⟨n, h⟩, hexLit, dnat, nT, Int.toNat_natCast, hexL_at h, hexL_len, decide_eq_true (show n ≤ n + 1 by omega), decide_eq_true (show n + 1 ≤ 16 by omega), Bool.and_self]

theorem hex_all : ∀ n : Fin 256, hexI (UInt8.ofNat n.val) = if 48 ≤ n.val ∧ n.val ≤ 57 then IntKind.i64.wrap (IntKind.i64.wrap (n.val : Int) - 48) else if 97 ≤ n.val ∧ n.val ≤ 102 then IntKind.i64.wrap (IntKind.i64.wrap (IntKind.i64.wrap (n.val : Int) - 97) + 10) else -1 := by decide +kernel

theorem hex_run (x : UInt8) {M : AMem} {m : Nat} (hm : 1 ≤ m) : call m 29 [.int .u8 x.toNat] M = some (.int .i64 (hexI x), M) := by
  obtain ⟨m, rfl⟩ : ∃ k, m = k + 1 := ⟨m - 1, by omega⟩
  have h := hex_all ⟨x.toNat, x.toNat_lt⟩
  simp only [UInt8.ofNat_toNat] at h
  rw [call, acall_run Try.func29 (hk (by decide)), hex_eq, h]
  simp only [leL48, leR57, leL97, leR102, forceI_eq]
  by_cases h1 : 48 ≤ x.toNat <;> by_cases h2 : x.toNat ≤ 57 <;> by_cases h3 : 97 ≤ x.toNat <;> by_cases h4 : x.toNat ≤ 102 <;> first | (exfalso; omega) | simp [h1, h2, h3, h4, ifB]

theorem lib_run (s : Bs) (c : Int) {M : AMem} {m : Nat} (hm : 1 ≤ m) : call m 30 [.str s, .int .u8 c] M = some (.int .i64 (idxL (c.toNat % 256) s 0), M) := by
  obtain ⟨m, rfl⟩ : ∃ k, m = k + 1 := ⟨m - 1, by omega⟩
  rw [call, acall_run Try.func30 (hk (by decide)), lib_eq]

theorem sib_run (s : Bs) (c : Int) {M : AMem} {m : Nat} (hm : 2 ≤ m) : call m 28 [.str s, .int .u8 c] M = some (.int .i64 (idxL (c.toNat % 256) s 0), M) := by
  obtain ⟨m, rfl⟩ : ∃ k, m = k + 1 := ⟨m - 1, by omega⟩
  rw [call, acall_run Try.func28 (hk (by decide)), sib_eq]
  rw [show acall Try.prog HK m 30 [.str s, .int .u8 c] M = _ from lib_run s c (by omega)]
  simp only [bO, aI]

theorem toNat256 (c : UInt8) : ((c.toNat : Int)).toNat % 256 = c.toNat := by have := c.toNat_lt; omega

theorem lindex_run (s : Bs) (c : UInt8) {M : AMem} {m : Nat} (hm : 2 ≤ m) : call m 27 [.str s, .str [c]] M = some (.int .i64 (idxL c.toNat s 0), M) := by
  obtain ⟨m, rfl⟩ : ∃ k, m = k + 1 := ⟨m - 1, by omega⟩
  rw [call, acall_run Try.func27 (hk (by decide)), lindex_eq, bytesEq_iff]
  rw [show acall Try.prog HK m 30 [.str s, .int .u8 (c.toNat : Int)] M = _ from lib_run s _ (by omega), toNat256]
  by_cases h : [c] = s
  · subst h
    simp only [decide_true, iT]
    rw [idxL]
    simp
  · simp only [h, decide_false, iF, bO, aI]

theorem lcut_run (s : Bs) (c : UInt8) (hs : s.length < 9223372036854775807) {M : AMem} {m : Nat} (hm : 3 ≤ m) : call m 22 [.str s, .str [c]] M = some (.tup [.str (cutB c s).1, .str (cutB c s).2.1, .bool (cutB c s).2.2], M) := by
  obtain ⟨m, rfl⟩ : ∃ k, m = k + 1 := ⟨m - 1, by omega⟩
  rw [call, acall_run Try.func22 (hk (by decide)), lcut_eq]
  rw [show acall Try.prog HK m 27 [.str s, .str [c]] M = _ from lindex_run s c (by omega), idxL_cut]
  cases h : (cutB c s).2.2 with
  | false =>
    obtain ⟨h1, h2⟩ := cutB_none h
    simp only [bO, aI, h1, h2]
    rfl
  | true =>
    obtain ⟨h1, h2⟩ := cutB_take h
    have hl : (cutB c s).1.length + 1 ≤ s.length := by
      have := congrArg List.length (cutB_some h)
      simp at this
      omega
    simp only [bO, aI, if_true, Nat.zero_add]
    rw [show leI 0 (((cutB c s).1.length : Nat) : Int) = true from by rw [show (0 : Int) = ((0 : Nat) : Int) from rfl, leI_nat]; simp]
    rw [show IntKind.i64.wrap ((((cutB c s).1.length : Nat) : Int) + (([c].length : Nat) : Int)) = (((cutB c s).1.length + 1 : Nat) : Int) from wrap_up (b := 1) (by omega)]
    simp only [iT, forceI_eq, dnat, nT, bO, aI, aS, Int.toNat_natCast, Nat.zero_le, decide_true, Bool.true_and, Bool.and_true, Nat.le_refl, decide_eq_true (show (cutB c s).1.length ≤ s.length by omega), decide_eq_true hl, h1, h2, List.drop_zero, List.take_length]

theorem cut_run (s : Bs) (c : UInt8) (hs : s.length < 9223372036854775807) {M : AMem} {m : Nat} (hm : 4 ≤ m) : call m 15 [.str s, .str [c]] M = some (.tup [.str (cutB c s).1, .str (cutB c s).2.1, .bool (cutB c s).2.2], M) := by
  obtain ⟨m, rfl⟩ : ∃ k, m = k + 1 := ⟨m - 1, by omega⟩
  rw [call, acall_run Try.func15 (hk (by decide)), cut_eq]
  rw [show acall Try.prog HK m 22 [.str s, .str [c]] M = _ from lcut_run s c hs (by omega)]
  simp only [bO, aT, aC, aS, aB, aN]
end Go.Proofs.Ytacldkbigpfamaa
