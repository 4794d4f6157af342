/-
  What the small functions do: bytes, digits, strings.Cut.
-/
import Derived.Test.YtjgionikigpdmaaGreatDoorWdB
namespace Go.Proofs.YtjgionikigpdmaaGreatDoor
open Go.Ab Go.Words
set_option linter.unusedVariables false
set_option linter.unusedSimpArgs false
set_option maxRecDepth 100000

theorem plain_run (x : UInt8) {M : AMem} {m : Nat} (hm : 1 ≤ m) : call m 14 [.int .u8 x.toNat] M = some (.bool (plainB x), M) := by
  obtain ⟨m, rfl⟩ : ∃ k, m = k + 1 := ⟨m - 1, by omega⟩
  rw [call, acall_run Tryz.func14 (hk (by decide)), plain_eq]
  simp only [leL33, leR126, eqR37, eqR61]
  unfold plainB
  rw [show (x.toNat == 37) = decide (x.toNat = 37) from rfl, show (x.toNat == 61) = decide (x.toNat = 61) from rfl]
  cases decide (33 ≤ x.toNat) <;> cases decide (x.toNat ≤ 126) <;> cases decide (x.toNat = 37) <;> cases decide (x.toNat = 61) <;> rfl

theorem dig_all : ∀ n : Fin 16, IntKind.u8.wrap ((n.val : Int) + 1) = ((n.val + 1 : Nat) : Int) := by decide
theorem digit_run {n : Nat} (h : n < 16) {M : AMem} {m : Nat} (hm : 1 ≤ m) : call m 16 [.int .u8 n] M = some (.str [hexD n], M) := by
  obtain ⟨m, rfl⟩ : ∃ k, m = k + 1 := ⟨m - 1, by omega⟩
  rw [call, acall_run Tryz.func16 (hk (by decide)), digit_eq]
  simp only [forceI_eq, dig_all ⟨n, h⟩, hexLit, dnat, nT, Int.toNat_natCast, hexL_at h, hexL_len, decide_eq_true (show n ≤ n + 1 by omega), decide_eq_true (show n + 1 ≤ 16 by omega), Bool.and_self]

theorem hex_all : ∀ n : Fin 256, hexI (UInt8.ofNat n.val) = if 48 ≤ n.val ∧ n.val ≤ 57 then IntKind.i64.wrap (IntKind.i64.wrap (n.val : Int) - 48) else if 97 ≤ n.val ∧ n.val ≤ 102 then IntKind.i64.wrap (IntKind.i64.wrap (IntKind.i64.wrap (n.val : Int) - 97) + 10) else -1 := by decide +kernel

theorem hex_run (x : UInt8) {M : AMem} {m : Nat} (hm : 1 ≤ m) : call m 13 [.int .u8 x.toNat] M = some (.int .i64 (hexI x), M) := by
  obtain ⟨m, rfl⟩ : ∃ k, m = k + 1 := ⟨m - 1, by omega⟩
  have h := hex_all ⟨x.toNat, x.toNat_lt⟩
  simp only [UInt8.ofNat_toNat] at h
  rw [call, acall_run Tryz.func13 (hk (by decide)), hex_eq, h]
  simp only [leL48, leR57, leL97, leR102, forceI_eq]
  by_cases h1 : 48 ≤ x.toNat <;> by_cases h2 : x.toNat ≤ 57 <;> by_cases h3 : 97 ≤ x.toNat <;> by_cases h4 : x.toNat ≤ 102 <;> first | (exfalso; omega) | simp [h1, h2, h3, h4, ifB]

theorem lib_run (s : Bs) (c : Int) {M : AMem} {m : Nat} (hm : 1 ≤ m) : call m 20 [.str s, .int .u8 c] M = some (.int .i64 (idxL (c.toNat % 256) s 0), M) := by
  obtain ⟨m, rfl⟩ : ∃ k, m = k + 1 := ⟨m - 1, by omega⟩
  rw [call, acall_run Tryz.func20 (hk (by decide)), lib_eq]

theorem sib_run (s : Bs) (c : Int) {M : AMem} {m : Nat} (hm : 2 ≤ m) : call m 11 [.str s, .int .u8 c] M = some (.int .i64 (idxL (c.toNat % 256) s 0), M) := by
  obtain ⟨m, rfl⟩ : ∃ k, m = k + 1 := ⟨m - 1, by omega⟩
  rw [call, acall_run Tryz.func11 (hk (by decide)), sib_eq]
  rw [show acall Tryz.prog HK m 20 [.str s, .int .u8 c] M = _ from lib_run s c (by omega)]
  simp only [bO, aI]

theorem toNat256 (c : UInt8) : ((c.toNat : Int)).toNat % 256 = c.toNat := by have := c.toNat_lt; omega

end Go.Proofs.YtjgionikigpdmaaGreatDoor
