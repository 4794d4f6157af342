/-
  What strings.Builder's methods do: Grow, WriteString, String.
-/
import Derived.Test.YtccmopkjkmpaaaaGreatDoorIxEqA
namespace Go.Proofs.YtccmopkjkmpaaaaGreatDoor
open Go Go.Ab Go.Words
set_option linter.unusedVariables false
set_option linter.unusedSimpArgs false
set_option linter.unusedSectionVars false
set_option maxRecDepth 100000

abbrev tB : TypeId := 181
abbrev tU : TypeId := 5

/-- a hook that answers a few functions alone -/
def Free (H : Hook) : Prop := ∀ f, (f == 16 || (f == 161 || f == 190)) = false → H f = none

/-- a slice of bytes that holds 'bs', and may have been made ahead -/
structure BufG (lo : Nat) (M : AMem) (u : Option (Nat × Nat)) (l : Nat) (c : Option Nat) (bs : List UInt8) : Prop where
  len : l = bs.length
  is : (bs = [] ∧ u = none ∧ c = some 0) ∨ (∃ k, u = some (k, 0) ∧ c = none ∧ lo ≤ k ∧ 0 < k ∧ k < M.next ∧ M.get k = some (.cells (strOfBytes bs) 1 (.of tU)))

theorem BufG.moved {lo : Nat} {M M' : AMem} {u : Option (Nat × Nat)} {l : Nat} {c : Option Nat} {bs : List UInt8} (h : BufG lo M u l c bs) (hn : M.next ≤ M'.next) (hk : ∀ k, lo ≤ k → k < M.next → M'.get k = M.get k) : BufG lo M' u l c bs := by
  refine ⟨h.len, ?_⟩
  rcases h.is with h | ⟨k, h1, h2, h4, h5, h6, h7⟩
  · exact .inl h
  · exact .inr ⟨k, h1, h2, h4, h5, Nat.lt_of_lt_of_le h6 hn, (hk k h4 h6).trans h7⟩

theorem BufG.src {lo : Nat} {M : AMem} {k l : Nat} {bs : List UInt8} (hlen : l = bs.length) (hg : M.get k = some (.cells (strOfBytes bs) 1 (.of tU))) : srcCells M 1 l (.slice (some (k, 0)) l none) = some (strOfBytes bs) := by
  unfold srcCells
  by_cases h0 : l = 0
  · have : bs = [] := List.eq_nil_of_length_eq_zero (by omega)
    subst this
    simp [h0, strOfBytes]
  · simp only [Nat.le_refl, if_true, h0, if_false]
    unfold cellsFrom
    rw [show M.row (k, 0).1 = some (strOfBytes bs) from row_cells hg]
    have e1 : (strOfBytes bs).length = l := by rw [strOfBytes_len, hlen]
    simp only [Nat.mul_one, Nat.zero_add, e1, Nat.le_refl, if_true, List.drop_zero, List.take_of_length_le (Nat.le_of_eq e1)]

/-- 'append' -/
theorem grow_bufG {lo : Nat} {M : AMem} {u : Option (Nat × Nat)} {l : Nat} {c : Option Nat} {bs t : List UInt8} (h : BufG lo M u l c bs) (hlo : lo ≤ M.next) (h0 : 0 < M.next) :
    ∃ u' c' M', growA M tU (.of tU) 1 u l c t.length (strOfBytes t) = some ((u', l + t.length, c'), M') ∧ BufG lo M' u' (l + t.length) c' (bs ++ t) ∧ Keeps lo M M' ∧ ∀ q, q < M.next → (∀ k, u = some (k, 0) → q ≠ k) → M'.get q = M.get q := by
  have hlen := h.len
  by_cases ht : t = []
  · subst ht
    refine ⟨u, c, M, ?_, ⟨by simp [hlen], by simpa using h.is⟩, Keeps.refl _ _, fun _ _ _ => rfl⟩
    unfold growA
    rw [if_pos (by simp)]
    rcases h.is with ⟨rfl, rfl, rfl⟩ | ⟨k, rfl, rfl, _⟩
    · have hl : l = 0 := hlen
      subst hl; rfl
    · rfl
  have htl : t.length ≠ 0 := fun e => ht (List.eq_nil_of_length_eq_zero e)
  rcases h.is with ⟨rfl, rfl, rfl⟩ | ⟨k, rfl, rfl, hlk, hk0, hkn, hg⟩
  · have hl : l = 0 := hlen
    subst hl
    refine ⟨some (M.next, 0), none, M.new (.cells (strOfBytes t) 1 (.of tU)), ?_, ⟨by simp, .inr ⟨M.next, rfl, rfl, hlo, h0, Nat.lt_succ_self _, ?_⟩⟩, Keeps.new _ hlo, fun q hq _ => by rw [AMem.get_new, if_neg (by omega)]⟩
    · unfold growA srcCells
      rw [if_neg htl]
      simp only
      rw [if_neg (show ¬ 0 + t.length ≤ 0 by omega)]
      simp only [if_true, List.nil_append]
    · rw [AMem.get_new, if_pos rfl]; simp
  · have hold := BufG.src (lo := lo) hlen hg
    have hput : putAt (strOfBytes bs) (0 + l * 1) (strOfBytes t) = none := by
      unfold putAt
      rw [if_neg]
      rw [strOfBytes_len, strOfBytes_len]; omega
    refine ⟨some (M.next, 0), none, (M.kill k).new (.cells (strOfBytes bs ++ strOfBytes t) 1 (.of tU)), ?_, ⟨by rw [List.length_append, hlen], .inr ⟨M.next, rfl, rfl, hlo, h0, Nat.lt_succ_self _, ?_⟩⟩, (Keeps.kill hlk).trans (Keeps.new _ hlo) (Nat.le_refl _), fun q hq hne => by rw [AMem.get_new, AMem.next_kill, if_neg (by omega), AMem.get_kill, if_neg (hne k rfl)]⟩
    · unfold growA
      rw [if_neg htl]
      have hre : Cl.re tU (.of tU) = .of tU := by unfold Cl.re; simp
      have hc : (0 < l ∨ k ≠ 0) ∧ True ∧ (strOfBytes t).all flatA = true := ⟨.inr (by omega), trivial, strOfBytes_flat t⟩
      simp only [hg]
      rw [if_pos hc, hput]
      simp only [hold, hre]
      have hgr : (Cl.grows tU 0 (.of tU) && (Cl.of tU).fzn.ble (0 + l * 1)) = true := by
        simp [Cl.grows, Cl.fzn]
      rw [hgr]
      rfl
    · rw [strOfBytes_append, AMem.get_new, AMem.next_kill, if_pos rfl]

theorem iB : ∃ i, Tryz.prog.info? 181 = some i ∧ i.size = 2 := by
  have h : (Tryz.prog.info? 181).map (·.size) = some 2 := by kernel_rfl
  obtain ⟨i, h1, h2⟩ := Option.map_eq_some_iff.1 h
  exact ⟨i, h1, h2⟩
theorem iP : ∃ i, Tryz.prog.info? 179 = some i ∧ i.size = 1 := by
  have h : (Tryz.prog.info? 179).map (·.size) = some 1 := by kernel_rfl
  obtain ⟨i, h1, h2⟩ := Option.map_eq_some_iff.1 h
  exact ⟨i, h1, h2⟩
theorem i5 : ∃ i, Tryz.prog.info? 5 = some i ∧ i.size = 1 ∧ i.bytes = 1 := by
  have h : (Tryz.prog.info? 5).map (fun i => (i.size, i.bytes)) = some (1, 1) := by kernel_rfl
  obtain ⟨i, h1, h2⟩ := Option.map_eq_some_iff.1 h
  cases h2' : i with
  | mk => subst h2'; simp at h2; exact ⟨_, h1, h2.1, h2.2⟩
theorem z5 : zeroA Tryz.prog 5 = some (.int .u8 0) := by kernel_rfl
theorem cB : Tryz.prog.cellsOf 181 = 2 := by kernel_rfl
theorem c5 : Tryz.prog.cellsOf 5 = 1 := by kernel_rfl
theorem u45 : Tryz.prog.underlying 45 = some (.slice 5) := by kernel_rfl

/-- a builder, written out -/
structure BAt (M : AMem) (b : Nat) (p u : Option (Nat × Nat)) (l : Nat) (c : Option Nat) (bs : List UInt8) : Prop where
  lt : b < M.next
  pos : 0 < b
  get : M.get b = some (.cells [.ptr p, .slice u l c] 0 (.of tB))
  buf : BufG (b + 1) M u l c bs

theorem BAt.row {M : AMem} {b : Nat} {p u : Option (Nat × Nat)} {l : Nat} {c : Option Nat} {bs : List UInt8} (h : BAt M b p u l c bs) : M.row b = some [.ptr p, .slice u l c] := row_cells h.get

def BldG (M : AMem) (b : Nat) (bs : List UInt8) : Prop := ∃ p u l c, (p = none ∨ p = some (b, 0)) ∧ BAt M b p u l c bs

section
variable {H : Hook} (hF : Free H)
include hF

theorem copy_run {M : AMem} {b : Nat} {p u : Option (Nat × Nat)} {l : Nat} {c : Option Nat} {bs : List UInt8} (h : BAt M b p u l c bs) (hp : p = none ∨ p = some (b, 0)) {m : Nat} (hm : 1 ≤ m) :
    ∃ M', acall Tryz.prog H m 141 [.ptr (some (b, 0))] M = some (.tup [], M') ∧ BAt M' b (some (b, 0)) u l c bs ∧ M'.next = M.next ∧ ∀ q, q ≠ b → M'.get q = M.get q := by
  obtain ⟨m, rfl⟩ : ∃ k, m = k + 1 := ⟨m - 1, by omega⟩
  obtain ⟨i, hi, hs⟩ := iB
  obtain ⟨j, hj, hjs⟩ := iP
  rcases hp with rfl | rfl
  · refine ⟨M.set b (.cells [.ptr (some (b, 0)), .slice u l c] 0 (.of tB)), ?_, ⟨h.lt, h.pos, by rw [AMem.get_set, if_pos rfl], h.buf.moved (Nat.le_refl _) fun k h1 h2 => by rw [AMem.get_set, if_neg (by omega)]⟩, rfl, fun q hq => by rw [AMem.get_set, if_neg hq]⟩
    rw [acall_run Tryz.func141 (hF 141 rfl), bcheck_eq, h.row]
    have e1 : toUnsK Tryz.prog M 181 (.ptr (some (b, 0))) (fun v M' => fromUnsK Tryz.prog M' 181 v fun v M' => bindO (storeA Tryz.prog M' 179 (b, 0) v) fun M' => some (AV.tup [], M')) = fromUnsK Tryz.prog M 181 (.ptr (some (b, 0))) fun v M' => bindO (storeA Tryz.prog M' 179 (b, 0) v) fun M' => some (AV.tup [], M') := by
      unfold toUnsK
      simp only [hi, h.row]
      show sureB (!(Nat.beq i.size 0) && Nat.blt 0 2) _ = _
      rw [hs]
      rfl
    have e2 : (fromUnsK Tryz.prog M 181 (.ptr (some (b, 0))) fun v M' => bindO (storeA Tryz.prog M' 179 (b, 0) v) fun M' => some (AV.tup [], M')) = bindO (storeA Tryz.prog M 179 (b, 0) (.ptr (some (b, 0)))) fun M' => some (AV.tup [], M') := by
      unfold fromUnsK
      simp only [hi, h.get, cB]
      rfl
    have e3 : storeA Tryz.prog M 179 (b, 0) (.ptr (some (b, 0))) = some (M.set b (.cells [.ptr (some (b, 0)), .slice u l c] 0 (.of tB))) := by
      unfold storeA
      simp only [h.get, Tryz.underlying179, hj, hjs]
      rfl
    simp only [bO, List.getElem?_cons_zero, aP, eN, show (true != false) = true from rfl, iT]
    rw [e1, e2, e3]
    rfl
  · refine ⟨M, ?_, h, rfl, fun _ _ => rfl⟩
    rw [acall_run Tryz.func141 (hF 141 rfl), bcheck_eq, h.row]
    have e1 : eqA Tryz.prog M 12 179 (.ptr (some (b, 0))) (.ptr (some (b, 0))) = some true := by
      unfold eqA
      simp only [Tryz.underlying179, hi, hs]
      simp
    show bindO (eqA Tryz.prog M 12 179 (.ptr (some (b, 0))) (.ptr (some (b, 0)))) _ = _
    rw [e1]
    rfl

theorem ws_run {M : AMem} {b : Nat} {bs t : List UInt8} (h : BldG M b bs) (hl : bs.length + t.length ≤ roomA) {m : Nat} (hm : 2 ≤ m) :
    ∃ M', acall Tryz.prog H m 131 [.ptr (some (b, 0)), .str t] M = some (.tup [.int .i64 t.length, .nilIface], M') ∧ BldG M' b (bs ++ t) ∧ Keeps b M M' := by
  obtain ⟨m, rfl⟩ : ∃ k, m = k + 1 := ⟨m - 1, by omega⟩
  obtain ⟨p, u, l, c, hp, hat⟩ := h
  obtain ⟨M1, r1, h1, n1, g1⟩ := copy_run hF hat hp (show 1 ≤ m by omega)
  obtain ⟨i, hi, his, hib⟩ := i5
  have hlt := h1.lt
  obtain ⟨u', c', M2, r2, h2, k2, _⟩ := grow_bufG (t := t) h1.buf (show b + 1 ≤ M1.next from h1.lt) (by omega)
  have hlen := h1.buf.len
  have g2 : M2.get b = some (.cells [.ptr (some (b, 0)), .slice u l c] 0 (.of tB)) := by rw [k2.get b (by omega)]; exact h1.get
  have hn2 := k2.next
  let M3 : AMem := M2.set b (.cells [.ptr (some (b, 0)), .slice u' (l + t.length) c'] 0 (.of tB))
  refine ⟨M3, ?_, ⟨some (b, 0), u', l + t.length, c', .inr rfl, ⟨by show b < M2.next; omega, h1.pos, by show (M2.set _ _).get _ = _; rw [AMem.get_set, if_pos rfl], h2.moved (Nat.le_refl _) fun k q1 q2 => by show (M2.set _ _).get _ = _; rw [AMem.get_set, if_neg (by omega)]⟩⟩, ⟨by show M.next ≤ M2.next; omega, fun q hq => by show (M2.set _ _).get _ = _; rw [AMem.get_set, if_neg (by omega), k2.get q (by omega), g1 q (by omega)]⟩⟩
  rw [acall_run Tryz.func131 (hF 131 rfl), bws_eq, r1]
  simp only [bO, aT, aN, h1.row, List.getElem?_cons_succ, List.getElem?_cons_zero, aL]
  rw [append_str u45 Tryz.underlying9 Tryz.underlying5 hi z5 rfl his hib (by omega), r2]
  simp only [bO]
  rw [g2]
  rfl

theorem bstr_run {M : AMem} {b : Nat} {bs : List UInt8} (h : BldG M b bs) (hne : bs ≠ []) (hl : bs.length ≤ roomA) {m : Nat} (hm : 1 ≤ m) :
    ∃ M', acall Tryz.prog H m 104 [.ptr (some (b, 0))] M = some (.str bs, M') ∧ Keeps b M M' := by
  obtain ⟨m, rfl⟩ : ∃ k, m = k + 1 := ⟨m - 1, by omega⟩
  obtain ⟨p, u, l, c, hp, hat⟩ := h
  have hlen := hat.buf.len
  have h0 : l ≠ 0 := fun e => hne (List.eq_nil_of_length_eq_zero (by omega))
  rcases hat.buf.is with ⟨rfl, _⟩ | ⟨k, rfl, rfl, hlk, hk0, hkn, hg⟩
  · exact absurd rfl hne
  · obtain ⟨l', rfl⟩ : ∃ l', l = l' + 1 := ⟨l - 1, by omega⟩
    refine ⟨M.set k (.cells (strOfBytes bs) 1 (.fz tU (max 0 (l' + 1)))), ?_, Keeps.set _ (by omega)⟩
    rw [acall_run Tryz.func104 (hF 104 rfl), bstr_eq, hat.row]
    simp only [bO, aL, eS, List.getElem?_cons_succ, List.getElem?_cons_zero, sdataK, beqA_int, beqA_sl, beqA_ptr, needB]
    have e1 : cellsFrom M (k, 0) (l' + 1) = some (strOfBytes bs) := by
      unfold cellsFrom
      rw [show M.row (k, 0).1 = some (strOfBytes bs) from row_cells hg]
      have e2 : (strOfBytes bs).length = l' + 1 := by rw [strOfBytes_len, hlen]
      simp only [Nat.zero_add, e2, Nat.le_refl, if_true, List.drop_zero, List.take_of_length_le (Nat.le_of_eq e2)]
    have e3 : Nat.ble (l' + 1) 9223372036854775807 = true := by
      rw [Nat.ble_eq]; unfold roomA at hl; omega
    unfold ustrK
    show (match M.get k, Tryz.prog.underlying 232 with | some (.cells c sz cl), some (.pointer e) => _ | _, _ => none) = _
    simp only [hg, Tryz.underlying232]
    show bindO (cellsFrom M (k, 0) (l' + 1)) _ = _
    rw [e1]
    show bindO (bytesOf (strOfBytes bs)) _ = _
    rw [bytesOf_str]
    show sureB (Nat.beq 5 5 && (Nat.beq 0 0 && (Nat.beq (Tryz.prog.cellsOf 5) 1 && Nat.ble (l' + 1) 9223372036854775807))) _ = _
    rw [e3, c5]
    rfl

theorem grow2_run {M : AMem} {b K : Nat} (h : BAt M b (some (b, 0)) none 0 (some 0) []) (hK : K + 1 ≤ 281474976710656) {m : Nat} (hm : 1 ≤ m) :
    ∃ M', acall Tryz.prog H m 168 [.ptr (some (b, 0)), .int .i64 ((K + 1 : Nat) : Int)] M = some (.tup [], M') ∧ BldG M' b [] ∧ Keeps b M M' := by
  obtain ⟨m, rfl⟩ : ∃ k, m = k + 1 := ⟨m - 1, by omega⟩
  have hlt := h.lt
  have hpos := h.pos
  let M1 : AMem := M.new (.cells [] 1 (.of 5))
  have g1 : M1.get b = some (.cells [.ptr (some (b, 0)), .slice none 0 (some 0)] 0 (.of tB)) := by show (M.new _).get b = _; rw [AMem.get_new, if_neg (by omega)]; exact h.get
  let M2 : AMem := M1.set b (.cells [.ptr (some (b, 0)), .slice (some (M.next, 0)) 0 none] 0 (.of tB))
  refine ⟨M2, ?_, ⟨some (b, 0), some (M.next, 0), 0, none, .inr rfl, ⟨Nat.lt_succ_of_lt hlt, hpos, by show (M1.set _ _).get _ = _; rw [AMem.get_set, if_pos rfl], ⟨rfl, .inr ⟨M.next, rfl, rfl, by omega, by omega, Nat.lt_succ_self _, ?_⟩⟩⟩⟩, (Keeps.new (M := M) _ (by omega)).trans (Keeps.set (M := M1) _ (Nat.le_refl _)) (Nat.le_refl _)⟩
  · have hmk : mkNoZeroA Tryz.prog M Tryz.prog.funcs[213] [AV.int IntKind.i64 ((K + 1 : Nat) : Int)] = some (.slice (some (M.next, 0)) (K + 1) none, M1) := by
      have e : mkNoZeroA Tryz.prog M Tryz.prog.funcs[213] [AV.int IntKind.i64 ((K + 1 : Nat) : Int)] = (match Nat.ble (K + 1) 281474976710656 with | true => some (.slice (some (M.next, 0)) (K + 1) none, M.new (.cells [] 1 (.of 5))) | false => none) := by kernel_rfl
      rw [e, Nat.ble_eq_true_of_le hK]
    have hsl : (sliceK Tryz.prog M1 45 (.slice (some (M.next, 0)) (K + 1) none) none [AV.int IntKind.i64 ((0 : Nat) : Int)].head? none fun v => some v) = some (.slice (some (M.next, 0)) 0 none) := by kernel_rfl
    rw [acall_run Tryz.func168 (hF 168 rfl), bgrow2_eq, h.row]
    simp only [bO, aL, aI, eS, List.getElem?_cons_succ, List.getElem?_cons_zero, forceI_eq]
    rw [show IntKind.i64.wrap (2 * ((0 : Nat) : Int)) = 0 from rfl, wrap_i64 (x := 0 + ((K + 1 : Nat) : Int)) (by omega) (by omega), show (0 : Int) + ((K + 1 : Nat) : Int) = ((K + 1 : Nat) : Int) by omega]
    rw [hmk]
    simp only [bO]
    rw [hsl]
    simp only [bO, aL, beqA_int, nT, row_cells g1, List.getElem?_cons_succ, List.getElem?_cons_zero, beqA_sl, beqA_ptr]
    have hcp : copyA Tryz.prog M1 45 (some (M.next, 0)) 0 (.slice none 0 (some 0)) = some (0, M1) := by kernel_rfl
    rw [hcp]
    simp only [bO]
    rw [g1]
    rfl
  · show (M1.set _ _).get _ = _
    rw [AMem.get_set, if_neg (by omega)]
    show (M.new _).get _ = _
    rw [AMem.get_new, if_pos rfl]
    rfl

theorem grow_run {M : AMem} {b K : Nat} (h : BAt M b none none 0 (some 0) []) (hK : K + 1 ≤ 281474976710656) {m : Nat} (hm : 2 ≤ m) :
    ∃ M', acall Tryz.prog H m 129 [.ptr (some (b, 0)), .int .i64 ((K + 1 : Nat) : Int)] M = some (.tup [], M') ∧ BldG M' b [] ∧ Keeps b M M' := by
  obtain ⟨m, rfl⟩ : ∃ k, m = k + 1 := ⟨m - 1, by omega⟩
  obtain ⟨M1, r1, h1, n1, g1⟩ := copy_run hF h (.inl rfl) (show 1 ≤ m by omega)
  obtain ⟨M2, r2, h2, k2⟩ := grow2_run hF h1 hK (show 1 ≤ m by omega)
  refine ⟨M2, ?_, h2, (⟨Nat.le_of_eq n1.symm, fun q hq => g1 q (by omega)⟩ : Keeps b M M1).trans k2 (Nat.le_refl _)⟩
  rw [acall_run Tryz.func129 (hF 129 rfl), bgrow_eq, r1]
  simp only [bO, aT, aN]
  rw [ltI_eq, decide_eq_false (by omega), iF, h1.row]
  simp only [bO, aL, aI, List.getElem?_cons_succ, List.getElem?_cons_zero, forceI_eq]
  rw [show IntKind.i64.wrap (((0 : Nat) : Int) - ((0 : Nat) : Int)) = 0 from rfl, ltI_eq, decide_eq_true (by omega), iT, r2]
  simp only [bO, aT, aN]
end
end Go.Proofs.YtccmopkjkmpaaaaGreatDoor

/-
  strings.ReplaceAll of noughts.
-/
namespace Go.Proofs.YtccmopkjkmpaaaaGreatDoor
open Go Go.Ab Go.Words
set_option linter.unusedVariables false
set_option linter.unusedSimpArgs false
set_option linter.unusedSectionVars false
set_option maxRecDepth 100000

theorem cnt_le : ∀ s : List UInt8, cntL 0 s ≤ s.length
  | [] => Nat.le_refl _
  | a :: x => by
    have := cnt_le x
    unfold cntL
    split
    · simp; omega
    · simp; omega

/-- the first nought, and what is behind it -/
theorem idx_of_cnt : ∀ (s : List UInt8) (i : Nat), 1 ≤ cntL 0 s → ∃ j, j < s.length ∧ idxL 0 s i = ((i + j : Nat) : Int) ∧ cntL 0 (s.drop (j + 1)) + 1 = cntL 0 s
  | [], i, h => absurd h (by simp [cntL])
  | a :: x, i, h => by
    unfold cntL at h
    unfold idxL
    cases e : Nat.beq a.toNat 0 with
    | true =>
      refine ⟨0, by simp, by simp, ?_⟩
      simp only [List.drop_succ_cons, List.drop_zero]
      rw [cntL, e]
    | false =>
      rw [e] at h
      obtain ⟨j, h1, h2, h3⟩ := idx_of_cnt x (i + 1) h
      refine ⟨j + 1, by simpa using h1, ?_, ?_⟩
      · simp only
        rw [h2]
        congr 1
        omega
      · rw [List.drop_succ_cons, h3, cntL, e]

abbrev Z : List UInt8 := [{ toBitVec := 0#8 }]
abbrev ZE : List UInt8 := [{ toBitVec := 0#8 }, { toBitVec := 255#8 }]

section
variable {H : Hook} (hF : Free H)
include hF

theorem idx_run (s : List UInt8) (hs : 1 ≤ cntL 0 s) {M : AMem} {m : Nat} (hm : 4 ≤ m) : acall Tryz.prog H m 130 [.str s, .str Z] M = some (.int .i64 (idxL 0 s 0), M) := by
  obtain ⟨m, rfl⟩ : ∃ k, m = k + 1 := ⟨m - 1, by omega⟩
  have h2 : ∀ {m : Nat}, 2 ≤ m → acall Tryz.prog H m 214 [.str s, .int .u8 0] M = some (.int .i64 (idxL 0 s 0), M) := fun {m} hm => by
    obtain ⟨m, rfl⟩ : ∃ k, m = k + 1 := ⟨m - 1, by omega⟩
    rw [acall_run Tryz.func214 (hF 214 rfl), ibyte_eq]
    rfl
  have h1 : ∀ {m : Nat}, 3 ≤ m → acall Tryz.prog H m 169 [.str s, .str Z] M = some (.int .i64 (idxL 0 s 0), M) := fun {m} hm => by
    obtain ⟨m, rfl⟩ : ∃ k, m = k + 1 := ⟨m - 1, by omega⟩
    rw [acall_run Tryz.func169 (hF 169 rfl), lidx_eq]
    rw [show acall Tryz.prog H m 214 [.str s, .int .u8 (({ toBitVec := 0#8 } : UInt8).toNat : Int)] M = _ from h2 (by omega)]
    cases e : bytesEq Z s with
    | false => rfl
    | true =>
      rw [iT]
      have : Z = s := by
        rw [bytesEq_eq] at e
        simpa using e
      subst this
      rfl
  rw [acall_run Tryz.func130 (hF 130 rfl), sidx_eq, h1 (by omega)]
  rfl

theorem repl_loop {s : List UInt8} (hsz : s.length ≤ 10000000) {b m : Nat} (hm : 10 ≤ m) {x6 : Int} {K : Nat} (hKs : K ≤ s.length) : ∀ (r i start y : Nat) (acc : List UInt8) (M : AMem), i + r = K → r < y → start ≤ s.length → cntL 0 (s.drop start) = r → acc.length = start + i → BldG M b acc → (1 ≤ i ∨ 1 ≤ r) →
    ∃ t M', runLoop Tryz.prog H Tryz.f98 0 [0, 1, 2, 3, 8, 9, 11, 10, 52, 53] m y (mkFr [(0, .str s), (1, .str Z), (2, .str ZE), (3, .int .i64 (K : Int)), (8, .str []), (9, .int .i64 x6), (10, .ptr (some (b, 0))), (11, .int .i64 (start : Int)), (52, .int .i64 (K : Int)), (53, .int .i64 (i : Int))]) M (afterLoop Tryz.prog H Tryz.f98 0 m) = some (.str t, M') ∧ t.length = s.length + K ∧ Keeps b M M' := by
  intro r
  induction r with
  | zero =>
    intro i start y acc M hi hy hst hc ha hB h1
    obtain ⟨y, rfl⟩ : ∃ x, y = x + 1 := ⟨y - 1, by omega⟩
    have hKs : K ≤ start + i := by omega
    have hlen : acc.length ≤ 20000000 + K := by omega
    have hK : i = K := by omega
    have hacc : acc ≠ [] := fun e => by rw [e] at ha; simp at ha; omega
    by_cases hbig : acc.length + s.length ≤ 140737488355328
    · have hd : (List.drop start (List.take s.length s)).length = s.length - start := by simp
      obtain ⟨M1, r1, B1, k1⟩ := ws_run hF (t := List.drop start (List.take s.length s)) hB (by rw [hd]; unfold roomA; omega) (m := m) (by omega)
      obtain ⟨M2, r2, k2⟩ := bstr_run hF B1 (by intro e; exact hacc (List.append_eq_nil_iff.1 e).1) (by rw [List.length_append, hd]; unfold roomA; omega) (m := m) (by omega)
      refine ⟨acc ++ List.drop start (List.take s.length s), M2, ?_, by rw [List.length_append, hd]; omega, k1.trans k2 (Nat.le_refl _)⟩
      rw [runLoop_succ, replL_body, ltI_eq, decide_eq_false (by omega), iF, onward_exit, replL_end0]
      rw [decide_eq_true (show (0 : Int) ≤ (start : Int) by omega), nT, Int.toNat_natCast, decide_eq_true (show start ≤ s.length from hst), decide_eq_true (Nat.le_refl _)]
      simp only [Bool.and_self, nT]
      rw [r1]
      simp only [bO, aT, aC, aI, aN]
      rw [r2]
      rfl
    · omega
  | succ r ih =>
    intro i start y acc M hi hy hst hc ha hB h1
    obtain ⟨y, rfl⟩ : ∃ x, y = x + 1 := ⟨y - 1, by omega⟩
    obtain ⟨j, hj, hidx, hcn⟩ := idx_of_cnt (s.drop start) 0 (by omega)
    rw [Nat.zero_add] at hidx
    have hcnt := cnt_le (s.drop start)
    have hdl : (s.drop start).length = s.length - start := List.length_drop
    have htake : List.drop start (List.take s.length s) = s.drop start := by rw [List.take_length]
    have hdt : (List.drop start (List.take (start + j) s)).length = j := by simp; omega
    obtain ⟨M1, r1, B1, k1⟩ := ws_run hF (t := List.drop start (List.take (start + j) s)) hB (by rw [hdt]; unfold roomA; omega) (m := m) (by omega)
    obtain ⟨M2, r2, B2, k2⟩ := ws_run hF (t := ZE) B1 (by rw [List.length_append, hdt]; unfold roomA; simp; omega) (m := m) (by omega)
    have hnext : start + j + 1 ≤ s.length := by omega
    obtain ⟨t, M3, r3, ht, k3⟩ := ih (i + 1) (start + j + 1) y ((acc ++ List.drop start (List.take (start + j) s)) ++ ZE) M2 (by omega) (by omega) hnext (by
      have : s.drop (start + j + 1) = (s.drop start).drop (j + 1) := by rw [List.drop_drop]; congr 1
      rw [this]; omega) (by rw [List.length_append, List.length_append, hdt, ha]; simp; omega) B2 (.inl (by omega))
    refine ⟨t, M3, ?_, ht, (k1.trans k2 (Nat.le_refl _)).trans k3 (Nat.le_refl _)⟩
    rw [runLoop_succ, replL_body, ltI_eq, decide_eq_true (by omega), iT, decide_eq_true (show (0 : Int) ≤ (start : Int) by omega), nT, Int.toNat_natCast, decide_eq_true (show start ≤ s.length from hst), decide_eq_true (Nat.le_refl _)]
    simp only [Bool.and_self, nT]
    rw [htake, idx_run hF (s.drop start) (by omega) (by omega), hidx]
    simp only [bO, aI, forceI_eq]
    rw [wrap_i64 (x := (start : Int) + (j : Int)) (by omega) (by omega)]
    rw [show (start : Int) + (j : Int) = ((start + j : Nat) : Int) by omega, decide_eq_true (show (0 : Int) ≤ ((start + j : Nat) : Int) by omega), nT, Int.toNat_natCast, decide_eq_true (show start ≤ start + j by omega), decide_eq_true (show start + j ≤ s.length by omega)]
    simp only [Bool.and_self, nT]
    rw [r1]
    simp only [bO, aT, aC, aI, aN]
    rw [r2]
    simp only [bO, aT, aC, aI, aN, forceI_eq]
    rw [show ((start + j : Nat) : Int) + ((Z.length : Nat) : Int) = ((start + j + 1 : Nat) : Int) by simp, wrap_i64 (x := ((start + j + 1 : Nat) : Int)) (by omega) (by omega), wrap_i64 (x := (i : Int) + 1) (by omega) (by omega), show (i : Int) + 1 = ((i + 1 : Nat) : Int) by omega, onward_normal]
    exact r3

theorem rall_run (s : List UInt8) (hsz : s.length ≤ 2000000) {M : AMem} (hM : 0 < M.next) {m : Nat} (hm : 2000100 ≤ m) :
    ∃ t M', acall Tryz.prog H m 66 [.str s, .str Z, .str ZE] M = some (.str t, M') ∧ t.length ≤ 2 * s.length ∧ Keeps M.next M M' := by
  obtain ⟨m, rfl⟩ : ∃ k, m = k + 1 := ⟨m - 1, by omega⟩
  have hc := cnt_le s
  have hcnt : ∀ {m : Nat}, 1 ≤ m → acall Tryz.prog H m 128 [.str s, .str Z] M = some (.int .i64 ((cntL 0 s : Nat) : Int), M) := fun {m} hm => by
    obtain ⟨m, rfl⟩ : ∃ k, m = k + 1 := ⟨m - 1, by omega⟩
    rw [acall_run Tryz.func128 (hF 128 rfl), scnt_eq]
    rfl
  have hrep : ∃ t M', acall Tryz.prog H m 98 [.str s, .str Z, .str ZE, .int .i64 (-1)] M = some (.str t, M') ∧ t.length ≤ 2 * s.length ∧ Keeps M.next M M' := by
    obtain ⟨m, rfl⟩ : ∃ k, m = k + 1 := ⟨m - 1, by omega⟩
    by_cases h0 : cntL 0 s = 0
    · refine ⟨s, M, ?_, by omega, Keeps.refl _ _⟩
      rw [acall_run Tryz.func98 (hF 98 rfl), repl_eq, show bytesEq Z ZE = false from rfl, iF, show eqI (-1) 0 = false from rfl, iF, hcnt (by omega), h0]
      rfl
    · let M1 : AMem := M.new (.cells [.ptr none, .slice none 0 (some 0)] 0 (.of 181))
      have hA : BAt M1 M.next none none 0 (some 0) [] := ⟨Nat.lt_succ_self _, hM, by show (M.new _).get _ = _; rw [AMem.get_new, if_pos rfl], ⟨rfl, .inl ⟨rfl, rfl, rfl⟩⟩⟩
      obtain ⟨M2, r2, B2, k2⟩ := grow_run hF hA (K := s.length + cntL 0 s - 1) (by omega) (m := m) (by omega)
      obtain ⟨t, M3, r3, ht, k3⟩ := repl_loop hF (s := s) (by omega) (b := M.next) (m := m) (by omega) (x6 := ((cntL 0 s : Nat) : Int)) (K := cntL 0 s) hc (cntL 0 s) 0 0 m [] M2 (by omega) (by omega) (by omega) (by simp) (by simp) B2 (.inr (by omega))
      refine ⟨t, M3, ?_, by omega, ((Keeps.new (M := M) _ (Nat.le_refl _)).trans k2 (Nat.le_refl _)).trans k3 (Nat.le_refl _)⟩
      rw [acall_run Tryz.func98 (hF 98 rfl), repl_eq, show bytesEq Z ZE = false from rfl, iF, show eqI (-1) 0 = false from rfl, iF, hcnt (by omega)]
      simp only [bO, aI]
      rw [eqI_eq, show (((cntL 0 s : Nat) : Int) == 0) = false by rw [beq_eq_false_iff_ne]; omega, iF, show ltI (-1) 0 = true from rfl, iT]
      simp only [forceI_eq]
      rw [show IntKind.i64.wrap (((ZE.length : Nat) : Int) - ((Z.length : Nat) : Int)) = 1 from rfl, Int.mul_one, wrap_i64 (x := ((cntL 0 s : Nat) : Int)) (by omega) (by omega), wrap_i64 (x := ((s.length : Nat) : Int) + ((cntL 0 s : Nat) : Int)) (by omega) (by omega)]
      rw [show ((s.length : Nat) : Int) + ((cntL 0 s : Nat) : Int) = ((s.length + cntL 0 s - 1 + 1 : Nat) : Int) by omega]
      rw [show acall Tryz.prog H m 129 [.ptr (some (M.next, 0)), .int .i64 ((s.length + cntL 0 s - 1 + 1 : Nat) : Int)] (M.new (ABlk.cells [AV.ptr none, AV.slice none 0 (some 0)] 0 (Cl.of 181))) = _ from r2]
      simp only [bO, aT, aN]
      rw [show ltI 0 ((Z.length : Nat) : Int) = true from rfl, iT]
      exact r3
  obtain ⟨t, M', r, ht, k⟩ := hrep
  refine ⟨t, M', ?_, ht, k⟩
  rw [acall_run Tryz.func66 (hF 66 rfl), rall_eq, r]
  rfl
end
end Go.Proofs.YtccmopkjkmpaaaaGreatDoor

/-
  word.Put, tuple.Key and tuple.Span of a number and a text.
-/
namespace Go.Proofs.YtccmopkjkmpaaaaGreatDoor
open Go Go.Ab Go.Words
set_option linter.unusedVariables false
set_option linter.unusedSimpArgs false
set_option linter.unusedSectionVars false
set_option maxRecDepth 100000

theorem two_byte : ∀ i : Fin 8, IntKind.u8.wrap ((2 : Int).fdiv (2 ^ min (8 * i.val) 64)) = (((if i.val = 0 then (2 : UInt8) else 0)).toNat : Int) := by decide +kernel

/-- 'append' of bytes that lie in a buffer -/
theorem append_bytes {lo' : Nat} {M : AMem} {u u' : Option (Nat × Nat)} {l l' : Nat} {c c' : Option Nat} {t : List UInt8} (h : BufG lo' M u' l' c' t) (hl : l + t.length ≤ roomA) :
    appendA Tryz.prog M 45 45 u l c (.slice u' l' c') = growA M tU (.of tU) 1 u l c t.length (strOfBytes t) := by
  obtain ⟨i, hi, his, hib⟩ := i5
  have hb : byteCl Tryz.prog 5 = .of 5 := by unfold byteCl; rw [Tryz.underlying5]
  have hlen := h.len
  have hsrc : srcCells M 1 l' (.slice u' l' c') = some (strOfBytes t) := by
    rcases h.is with ⟨rfl, rfl, rfl⟩ | ⟨k, rfl, rfl, _, _, _, hg⟩
    · have : l' = 0 := hlen
      subst this
      simp [srcCells, strOfBytes]
    · exact BufG.src (lo := lo') hlen hg
  have h1 : (AV.int .u8 0).cells.length = 1 := rfl
  unfold appendA
  simp only [u45, hi, z5, h1, his, hib, hb, ne_eq, not_true_eq_false, Nat.one_ne_zero, or_self, if_false, srcLen, Option.map_some, hsrc, Nat.mul_one]
  rw [if_pos ⟨by omega, by omega⟩, hlen]

theorem bytesStr_buf {lo : Nat} {M : AMem} {u : Option (Nat × Nat)} {l : Nat} {c : Option Nat} {bs : List UInt8} (h : BufG lo M u l c bs) : bytesStr M u l = some bs := by
  have hlen := h.len
  unfold bytesStr
  rcases h.is with ⟨rfl, rfl, rfl⟩ | ⟨k, rfl, rfl, _, _, _, hg⟩
  · have : l = 0 := hlen
    subst this
    simp [bytesOf]
  · by_cases h0 : l = 0
    · have : bs = [] := List.eq_nil_of_length_eq_zero (by omega)
      subst this h0
      simp [bytesOf]
    · simp only [h0, if_false]
      unfold cellsFrom
      rw [show M.row (k, 0).1 = some (strOfBytes bs) from row_cells hg]
      have e1 : (strOfBytes bs).length = l := by rw [strOfBytes_len, hlen]
      simp only [Nat.zero_add, e1, Nat.le_refl, if_true, List.drop_zero, List.take_of_length_le (Nat.le_of_eq e1), Option.bind_some, bytesOf_str]

section
variable {H : Hook} (hF : Free H)
include hF

theorem byte_app {lo : Nat} {M : AMem} {u : Option (Nat × Nat)} {l : Nat} {c : Option Nat} {bs : List UInt8} {x : UInt8} (h : BufG lo M u l c bs) (hlo : lo ≤ M.next) (h0 : 0 < M.next) (hl : bs.length + 1 ≤ roomA) :
    ∃ u' c' M', appendA Tryz.prog (M.new (.cells [.int .u8 x.toNat] 0 .yes)) 45 45 u l c (.slice (some (M.next, 0)) 1 (some 1)) = some ((u', l + 1, c'), M') ∧ BufG lo M' u' (l + 1) c' (bs ++ [x]) ∧ Keeps lo M M' ∧ ∀ q, q < M.next → (∀ k, u = some (k, 0) → q ≠ k) → M'.get q = M.get q := by
  obtain ⟨i, hi, his, hib⟩ := i5
  have hlen := h.len
  have h2 : BufG lo (M.new (.cells [.int .u8 x.toNat] 0 .yes)) u l c bs := h.moved (Nat.le_succ _) fun k _ hk => by rw [AMem.get_new, if_neg (by omega)]
  obtain ⟨u', c', M', r, h3, k3, f3⟩ := grow_bufG (t := [x]) h2 (Nat.le_succ_of_le hlo) (Nat.succ_pos _)
  refine ⟨u', c', M', ?_, h3, (Keeps.new _ hlo).trans k3 (Nat.le_refl _), fun q hq hne => by rw [f3 q (Nat.lt_succ_of_lt hq) hne, AMem.get_new, if_neg (by omega)]⟩
  rw [append_byte u45 Tryz.underlying5 hi z5 rfl his hib (x := x) (row_cells (by rw [AMem.get_new, if_pos rfl])) (by omega)]
  exact r

theorem wput_loop {lo m : Nat} {x1 x6 : Option (Nat × Nat)} {x2 x7 : Nat} {x3 x8 : Option Nat} : ∀ (k y : Nat) (M : AMem) (u : Option (Nat × Nat)) (c : Option Nat) (bs : List UInt8), k ≤ 8 → k < y → BufG lo M u (8 - k) c bs → lo ≤ M.next → 0 < M.next →
    ∃ u' c' bs' M', runLoop Tryz.prog H Tryz.f65 0 [0, 1, 2, 6, 7, 8] m y (mkFr [(0, .slice x1 x2 x3), (1, .int .i64 8), (2, .int .u64 2), (6, .slice x6 x7 x8), (7, .slice u (8 - k) c), (8, .int .i64 ((k : Int) - 1))]) M (afterLoop Tryz.prog H Tryz.f65 0 m) = some (.slice u' 8 c', M') ∧ BufG lo M' u' 8 c' bs' ∧ Keeps lo M M' := by
  intro k
  induction k with
  | zero =>
    intro y M u c bs hk hy h hlo h0
    obtain ⟨y, rfl⟩ : ∃ x, y = x + 1 := ⟨y - 1, by omega⟩
    refine ⟨u, c, bs, M, ?_, h, Keeps.refl _ _⟩
    rw [runLoop_succ, wputL_body, leI_eq, decide_eq_false (by omega), iF, onward_exit, wputL_end0]
  | succ k ih =>
    intro y M u c bs hk hy h hlo h0
    obtain ⟨y, rfl⟩ : ∃ x, y = x + 1 := ⟨y - 1, by omega⟩
    have hlen := h.len
    obtain ⟨u1, c1, M1, r1, h1, k1, _⟩ := byte_app hF (x := if k = 0 then 2 else 0) h hlo h0 (by unfold roomA; omega)
    have hn1 := k1.next
    have e8 : 8 - (k + 1) + 1 = 8 - k := by omega
    rw [e8] at h1 r1
    obtain ⟨u2, c2, bs2, M2, r2, h2, k2⟩ := ih y M1 u1 c1 _ (by omega) (by omega) h1 (by
      rcases h1.is with ⟨hb, _⟩ | ⟨j, _, _, a, _, b, _⟩
      · simp at hb
      · omega) (by
      rcases h1.is with ⟨hb, _⟩ | ⟨j, _, _, a, _, b, _⟩
      · simp at hb
      · omega)
    refine ⟨u2, c2, bs2, M2, ?_, h2, k1.trans k2 (Nat.le_refl _)⟩
    have hb := two_byte ⟨k, by omega⟩
    simp only at hb
    rw [runLoop_succ, wputL_body, leI_eq, decide_eq_true (by omega), iT]
    simp only [forceI_eq]
    rw [show ((k + 1 : Nat) : Int) - 1 = (k : Int) by omega, wrap_i64 (x := 8 * (k : Int)) (by omega) (by omega), decide_eq_true (show (0 : Int) ≤ 8 * (k : Int) by omega)]
    rw [show (8 * (k : Int)).toNat = 8 * k by omega, hb, sT]
    rw [r1]
    simp only [bO, forceI_eq]
    rw [wrap_i64 (x := (k : Int) - 1) (by omega) (by omega), onward_normal]
    exact r2

theorem wput_run {M : AMem} (h0 : 0 < M.next) {m : Nat} (hm : 30 ≤ m) :
    ∃ u c bs M', acall Tryz.prog H m 65 [.slice none 0 (some 0), .int .i64 8, .int .u64 2] M = some (.slice u 8 c, M') ∧ BufG M.next M' u 8 c bs ∧ Keeps M.next M M' := by
  obtain ⟨m, rfl⟩ : ∃ k, m = k + 1 := ⟨m - 1, by omega⟩
  have h1 : acall Tryz.prog H m 62 [.slice none 0 (some 0)] M = some (.slice none 0 (some 0), M) := by
    obtain ⟨m, rfl⟩ : ∃ k, m = k + 1 := ⟨m - 1, by omega⟩
    rw [acall_run Tryz.func62 (hF 62 rfl), cloneN_eq]
  have h2 : acall Tryz.prog H m 97 [.int .i64 8] M = some (.bool true, M) := by
    obtain ⟨m, rfl⟩ : ∃ k, m = k + 1 := ⟨m - 1, by omega⟩
    rw [acall_run Tryz.func97 (hF 97 rfl), wright_eq]
    rfl
  obtain ⟨u, c, bs, M', r, hB, k⟩ := wput_loop hF (m := m) (x1 := none) (x2 := 0) (x3 := some 0) (x6 := none) (x7 := 0) (x8 := some 0) 8 m M none (some 0) [] (Nat.le_refl _) (by omega) ⟨rfl, .inl ⟨rfl, rfl, rfl⟩⟩ (Nat.le_refl M.next) h0
  refine ⟨u, c, bs, M', ?_, hB, k⟩
  rw [acall_run Tryz.func65 (hF 65 rfl), wput_eq, h1]
  simp only [bO, aL]
  rw [h2]
  simp only [bO, aB, Bool.not_true, iF]
  exact r
end
end Go.Proofs.YtccmopkjkmpaaaaGreatDoor

/-
  tuple.Key and tuple.Span of a number and a text.
-/
namespace Go.Proofs.YtccmopkjkmpaaaaGreatDoor
open Go Go.Ab Go.Words
set_option linter.unusedVariables false
set_option linter.unusedSimpArgs false
set_option linter.unusedSectionVars false
set_option maxRecDepth 100000

/-- the parts: 2, and a text -/
abbrev parts (t : List UInt8) : List AV := [.bool true, .int .u64 2, .str [], .bool false, .int .u64 0, .str t]

theorem cutP0 (t : List UInt8) : (if (0 : Nat) + (0 : Int).toNat * 3 + 3 ≤ (parts t).length then some (AV.agg (List.take 3 (List.drop (0 + (0 : Int).toNat * 3) (parts t)))) else none) = some (.agg [.bool true, .int .u64 2, .str []]) := rfl
theorem cutP1 (t : List UInt8) : (if (0 : Nat) + (1 : Int).toNat * 3 + 3 ≤ (parts t).length then some (AV.agg (List.take 3 (List.drop (0 + (1 : Int).toNat * 3) (parts t)))) else none) = some (.agg [.bool false, .int .u64 0, .str t]) := rfl

theorem put3 {X : AMem} {p : Nat} {a b c : AV} (h : X.get p = some (.cells [a, b, c] 0 .yes)) (a' b' c' : AV) :
    (getCells (X.get p) fun c sz cl => bindO (if 0 + (1 + 1 + 1) ≤ c.length then some (a' :: b' :: c' :: List.drop (0 + (1 + 1 + 1)) c) else none) fun a => needB ((Cl.fzn cl).ble 0) (some (X.set p (ABlk.cells a sz cl)))) = some (X.set p (.cells [a', b', c'] 0 .yes)) := by
  rw [h]; rfl
theorem take3 (a b c : AV) : (if 0 + 3 ≤ [a, b, c].length then some (AV.agg (List.take 3 (List.drop 0 [a, b, c]))) else none) = some (AV.agg [a, b, c]) := rfl
theorem fresh_get (M : AMem) (B : ABlk) : (M.new B).get M.next = some B := by rw [AMem.get_new, if_pos rfl]
theorem fresh_keeps (M : AMem) (B B' : ABlk) : Keeps M.next M ((M.new B).set M.next B') := (Keeps.new (M := M) B (Nat.le_refl _)).trans (Keeps.set (M := M.new B) B' (Nat.le_refl _)) (Nat.le_refl _)
theorem fresh_row (M : AMem) (B : ABlk) (cs : List AV) : ((M.new B).set M.next (.cells cs 0 .yes)).row M.next = some cs := row_cells (s := 0) (l := .yes) (by rw [AMem.get_set, if_pos rfl])

theorem BufG.kept {lo x : Nat} {M M' : AMem} {u : Option (Nat × Nat)} {l : Nat} {c : Option Nat} {bs : List UInt8} (h : BufG lo M u l c bs) (k : Keeps x M M') (hx : M.next ≤ x) : BufG lo M' u l c bs := h.moved k.next fun j _ hj => k.get j (by omega)
theorem BufG.less {lo lo' : Nat} {M : AMem} {u : Option (Nat × Nat)} {l : Nat} {c : Option Nat} {bs : List UInt8} (h : BufG lo M u l c bs) (hl : lo' ≤ lo) : BufG lo' M u l c bs := by
  refine ⟨h.len, ?_⟩
  rcases h.is with h | ⟨k, h1, h2, h4, h5⟩
  · exact .inl h
  · exact .inr ⟨k, h1, h2, by omega, h5⟩

section
variable {H : Hook} (hF : Free H)
include hF

theorem key_run {M : AMem} {a : Nat} {cc : Option Nat} {t : List UInt8} (hr : M.row a = some (parts t)) (ha : a < M.next) (ht : t.length ≤ 2000000) {m : Nat} (hm : 2000200 ≤ m) :
    ∃ k M', acall Tryz.prog H m 41 [.slice (some (a, 0)) 2 cc] M = some (.tup [.str k, .int .i64 0], M') ∧ k.length ≤ 2 * t.length + 12 ∧ Keeps M.next M M' := by
  obtain ⟨m, rfl⟩ : ∃ k, m = k + 1 := ⟨m - 1, by omega⟩
  -- the number
  let A0 : List AV := [.bool false, .int .u64 0, .str []]
  let A1 : List AV := [.bool true, .int .u64 2, .str []]
  let M2 : AMem := (M.new (.cells A0 0 .yes)).set M.next (.cells A1 0 .yes)
  have k2 : Keeps M.next M M2 := fresh_keeps M _ _
  have hn2 : M2.next = M.next + 1 := rfl
  have w2 : M2.row M.next = some A1 := fresh_row M _ _
  obtain ⟨u1, c1, M3, r3, b3, k3, f3⟩ := byte_app hF (M := M2) (lo := M.next + 1) (u := none) (l := 0) (c := some 0) (bs := []) (x := 1) ⟨rfl, .inl ⟨rfl, rfl, rfl⟩⟩ (Nat.le_of_eq hn2.symm) (by omega) (by unfold roomA; simp)
  have hn3 := k3.next
  have w3 : M3.row M.next = some A1 := by rw [k3.row (by omega)]; exact w2
  obtain ⟨u4, c4, bs4, M4, r4, b4, k4⟩ := wput_run hF (M := M3) (by omega) (m := m) (by omega)
  have hn4 := k4.next
  have hl4 := b4.len
  obtain ⟨u5, c5', M5, r5, b5, k5, f5⟩ := grow_bufG (t := bs4) (b3.kept k4 (Nat.le_refl _)) (show M.next + 1 ≤ M4.next by omega) (by omega)
  have hn5 := k5.next
  have k25 : Keeps (M.next + 1) M2 M5 := (k3.trans (k4.less (by omega)) (Nat.le_refl _)).trans k5 (Nat.le_refl _)
  have k05 : Keeps M.next M M5 := k2.trans k25 (Nat.le_succ _)
  have hr5 : M5.row a = some (parts t) := by rw [k05.row ha]; exact hr
  -- the text
  let A2 : List AV := [.bool false, .int .u64 0, .str t]
  let M6 : AMem := (M5.new (.cells A0 0 .yes)).set M5.next (.cells A2 0 .yes)
  have k6 : Keeps M5.next M5 M6 := fresh_keeps M5 _ _
  have hn6 : M6.next = M5.next + 1 := rfl
  have w6 : M6.row M5.next = some A2 := fresh_row M5 _ _
  have b5len := b5.len
  obtain ⟨u7, c7, M7, r7, b7, k7, f7⟩ := byte_app hF (M := M6) (lo := M.next + 1) (x := 2) (b5.kept k6 (Nat.le_refl _)) (by omega) (by omega) (by rw [← b5len, ← hl4]; unfold roomA; omega)
  have hn7 := k7.next
  have w7 : M7.row M5.next = some A2 := by
    unfold AMem.row
    rw [f7 M5.next (by omega) (fun k hk => by
      rcases b5.is with ⟨_, e, _⟩ | ⟨j, e, _, _, _, hj, _⟩
      · rw [e] at hk; cases hk
      · rw [e] at hk; cases hk; omega)]
    exact w6
  obtain ⟨tt, M8, r8, htt, k8⟩ := rall_run hF t ht (M := M7) (by omega) (m := m) (by omega)
  have hn8 := k8.next
  obtain ⟨i, hi, his, hib⟩ := i5
  have b7len := b7.len
  obtain ⟨u9, c9, M9, r9, b9, k9, f9⟩ := grow_bufG (t := tt) (b7.kept k8 (Nat.le_refl _)) (show M.next + 1 ≤ M8.next by omega) (by omega)
  have hn9 := k9.next
  have b9len := b9.len
  obtain ⟨uA, cA, MA, rA, bA, kA, fA⟩ := grow_bufG (t := [{ toBitVec := 0#8 }, { toBitVec := 1#8 }]) b9 (show M.next + 1 ≤ M9.next by omega) (by omega)
  have k6A : Keeps (M.next + 1) M6 MA := ((k7.trans (k8.less (by omega)) (Nat.le_refl _)).trans k9 (Nat.le_refl _)).trans kA (Nat.le_refl _)
  have k5A : Keeps (M.next + 1) M5 MA := (k6.less (by omega)).trans k6A (Nat.le_refl _)
  have kall : Keeps M.next M MA := k05.trans (k5A.less (Nat.le_succ _)) (Nat.le_refl _)
  have bAl := bA.len
  refine ⟨(((([] ++ [(1 : UInt8)]) ++ bs4) ++ [(2 : UInt8)]) ++ tt) ++ [{ toBitVec := 0#8 }, { toBitVec := 1#8 }], MA, ?_, ?_, kall⟩
  · rw [acall_run Tryz.func41 (hF 41 rfl), key_eq]
    obtain ⟨m, rfl⟩ : ∃ k, m = k + 3 := ⟨m - 3, by omega⟩
    rw [runLoop_succ, keyL_body, show ltI 0 ((2 : Nat) : Int) = true from rfl, iT, show (decide ((0 : Int) ≤ 0) && decide ((0 : Int) < ((2 : Nat) : Int))) = true from rfl, nT, bO]
    simp only [hr]
    rw [bO, cutP0, bO, aG, aC, aB, aC, aI, aC, aS, aN, put3 (fresh_get M _), bO]
    rw [show ((M.new (ABlk.cells [AV.bool false, AV.int IntKind.u64 0, AV.str []] 0 Cl.yes)).set M.next (ABlk.cells [AV.bool true, AV.int IntKind.u64 2, AV.str []] 0 Cl.yes)) = M2 from rfl]
    simp only [w2, A1, bO, List.getElem?_cons_zero, List.getElem?_cons_succ, aB, iT, aS, aI]
    rw [show (!bytesEq [] []) = false from rfl, iF, show (!true) = false from rfl, iF]
    rw [show appendA Tryz.prog (M2.new (ABlk.cells [AV.int IntKind.u8 1] 0 Cl.yes)) 45 45 none 0 (some 0) (AV.slice (some (M2.next, 0)) 1 (some 1)) = _ from r3]
    simp only [bO, w3, A1, List.getElem?_cons_zero, List.getElem?_cons_succ, aI]
    rw [r4]
    simp only [bO, aL]
    rw [append_bytes b4 (by rw [← hl4]; unfold roomA; omega), r5]
    simp only [bO, forceI_eq]
    rw [show IntKind.i64.wrap ((0 : Int) + 1) = 1 from rfl, onward_normal]
    rw [runLoop_succ, keyL_body, show ltI 1 ((2 : Nat) : Int) = true from rfl, iT, show (decide ((0 : Int) ≤ 1) && decide ((1 : Int) < ((2 : Nat) : Int))) = true from rfl, nT, bO]
    simp only [hr5]
    rw [bO, cutP1, bO, aG, aC, aB, aC, aI, aC, aS, aN, put3 (fresh_get M5 _), bO]
    rw [show ((M5.new (ABlk.cells [AV.bool false, AV.int IntKind.u64 0, AV.str []] 0 Cl.yes)).set M5.next (ABlk.cells [AV.bool false, AV.int IntKind.u64 0, AV.str t] 0 Cl.yes)) = M6 from rfl]
    simp only [w6, A2, bO, List.getElem?_cons_zero, List.getElem?_cons_succ, aB, iT, iF, aS, aI]
    rw [show (!false) = true from rfl, iT, show (!eqI 0 0) = false from rfl, iF]
    rw [show appendA Tryz.prog (M6.new (ABlk.cells [AV.int IntKind.u8 2] 0 Cl.yes)) 45 45 u5 (0 + 1 + bs4.length) c5' (AV.slice (some (M6.next, 0)) 1 (some 1)) = _ from r7]
    simp only [bO, w7, A2, List.getElem?_cons_zero, List.getElem?_cons_succ, aS]
    rw [r8]
    simp only [bO, aS]
    rw [append_str u45 Tryz.underlying9 Tryz.underlying5 hi z5 rfl his hib (by rw [← hl4]; unfold roomA; omega), r9]
    simp only [bO]
    rw [append_str u45 Tryz.underlying9 Tryz.underlying5 hi z5 rfl his hib (by rw [← hl4]; unfold roomA; simp; omega), rA]
    simp only [bO, forceI_eq]
    rw [show IntKind.i64.wrap ((1 : Int) + 1) = 2 from rfl, onward_normal]
    rw [runLoop_succ, keyL_body, show ltI 2 ((2 : Nat) : Int) = false from rfl, iF, onward_exit, keyL_end0, bytesStr_buf bA]
    rfl
  · simp only [List.length_append, List.length_cons, List.length_nil]
    omega

theorem span_run {M : AMem} {a : Nat} {cc : Option Nat} {t : List UInt8} (hr : M.row a = some (parts t)) (ha : a < M.next) (ht : t.length ≤ 2000000) {m : Nat} (hm : 2000201 ≤ m) :
    ∃ lo hi M', acall Tryz.prog H m 42 [.slice (some (a, 0)) 2 cc] M = some (.tup [.agg [.str lo, .str hi, .bool false], .int .i64 0], M') ∧ Keeps M.next M M' := by
  obtain ⟨m, rfl⟩ : ∃ k, m = k + 1 := ⟨m - 1, by omega⟩
  have k0 : Keeps M.next M (M.new (.cells [.str [], .str [], .bool false] 0 .yes)) := Keeps.new _ (Nat.le_refl _)
  obtain ⟨k, M1, r1, hk, k1⟩ := key_run hF (M := M.new (.cells [.str [], .str [], .bool false] 0 .yes)) (cc := cc) (by rw [k0.row ha]; exact hr) (Nat.lt_succ_of_lt ha) ht (m := m) (by omega)
  have g1 : M1.get M.next = some (.cells [.str [], .str [], .bool false] 0 .yes) := by rw [k1.get _ (Nat.lt_succ_self _)]; exact fresh_get M _
  refine ⟨k, k.append [{ toBitVec := 3#8 }], M1.set M.next (.cells [.str k, .str (k.append [{ toBitVec := 3#8 }]), .bool false] 0 .yes), ?_, (k0.trans k1 k0.next).trans (Keeps.set (M := M1) _ (Nat.le_refl _)) (Nat.le_refl _)⟩
  rw [acall_run Tryz.func42 (hF 42 rfl), span_eq, r1]
  simp only [bO, aT, aC, aS, aI, aN]
  rw [show (!eqI 0 0) = false from rfl, iF, addOk_ok (by simp; omega), nT, put3 g1, bO]
  rw [show (M1.set M.next (ABlk.cells [AV.str k, AV.str (k.append [{ toBitVec := 3#8 }]), AV.bool false] 0 Cl.yes)).row M.next = _ from row_cells (s := 0) (l := .yes) (by rw [AMem.get_set, if_pos rfl])]
  rw [bO, take3, bO, aG, aC, aS, aC, aS, aC, aB, aN]
end
end Go.Proofs.YtccmopkjkmpaaaaGreatDoor
