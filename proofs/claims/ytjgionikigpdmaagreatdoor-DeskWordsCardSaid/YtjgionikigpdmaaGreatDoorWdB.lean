/-
  What strings.Builder's methods do, told of the abstract memory.
-/
import Derived.Test.YtjgionikigpdmaaGreatDoorWdEq
import Derived.Test.YtjgionikigpdmaaGreatDoorWake
namespace Go.Proofs.YtjgionikigpdmaaGreatDoor
open Go.Ab Go.Words
set_option linter.unusedVariables false
set_option linter.unusedSimpArgs false
set_option maxRecDepth 100000

abbrev fCopy : FuncId := 19
abbrev fWB : FuncId := 10
abbrev fWS : FuncId := 15
abbrev fStr : FuncId := 12
abbrev tB : TypeId := 36
abbrev tU : TypeId := 5

noncomputable abbrev HK : Hook := hkW
noncomputable abbrev call (n : Nat) (f : FuncId) (args : List AV) (M : AMem) : Option (AV × AMem) := acall Tryz.prog HK n f args M
theorem hk {f : FuncId} (h : f ≠ 4 ∧ f ≠ 213 ∧ f ≠ 196) : HK f = none := by
  show hkW f = none
  unfold hkW
  split
  · exact absurd rfl h.1
  · exact absurd rfl h.2.1
  · exact absurd rfl h.2.2
  · rfl

theorem i37 : ∃ i, Tryz.prog.info? 36 = some i ∧ i.size = 2 := by
  have h : (Tryz.prog.info? 36).map (·.size) = some 2 := by kernel_rfl
  obtain ⟨i, h1, h2⟩ := Option.map_eq_some_iff.1 h
  exact ⟨i, h1, h2⟩
theorem i34 : ∃ i, Tryz.prog.info? 33 = some i ∧ i.size = 1 := by
  have h : (Tryz.prog.info? 33).map (·.size) = some 1 := by kernel_rfl
  obtain ⟨i, h1, h2⟩ := Option.map_eq_some_iff.1 h
  exact ⟨i, h1, h2⟩
theorem i5 : ∃ i, Tryz.prog.info? 5 = some i ∧ i.size = 1 ∧ i.bytes = 1 := by
  have h : (Tryz.prog.info? 5).map (fun i => (i.size, i.bytes)) = some (1, 1) := by kernel_rfl
  obtain ⟨i, h1, h2⟩ := Option.map_eq_some_iff.1 h
  cases h2' : i with
  | mk => subst h2'; simp at h2; exact ⟨_, h1, h2.1, h2.2⟩
theorem z5 : zeroA Tryz.prog 5 = some (.int .u8 0) := by kernel_rfl
theorem c37 : Tryz.prog.cellsOf 36 = 2 := by kernel_rfl
theorem c5 : Tryz.prog.cellsOf 5 = 1 := by kernel_rfl

/-- a builder, written out: 'p' what it holds of its own address -/
structure BAt (M : AMem) (b : Nat) (p u : Option (Nat × Nat)) (l : Nat) (c : Option Nat) (bs : Bs) : Prop where
  lt : b < M.next
  pos : 0 < b
  get : M.get b = some (.cells [.ptr p, .slice u l c] 0 (.of tB))
  buf : Buf tU (b + 1) M u l c bs

theorem BAt.row {M : AMem} {b : Nat} {p u : Option (Nat × Nat)} {l : Nat} {c : Option Nat} {bs : Bs} (h : BAt M b p u l c bs) : M.row b = some [.ptr p, .slice u l c] := row_cells h.get

theorem _root_.Go.Ab.Buf.moved {e : TypeId} {lo : Nat} {M M' : AMem} {u : Option (Nat × Nat)} {l : Nat} {c : Option Nat} {bs : Bs} (h : Buf e lo M u l c bs) (hn : M.next ≤ M'.next) (hk : ∀ k, lo ≤ k → k < M.next → M'.get k = M.get k) : Buf e lo M' u l c bs := by
  refine ⟨h.len, ?_⟩
  rcases h.is with h | ⟨k, h1, h2, h3, h4, h5, h6, h7⟩
  · exact .inl h
  · exact .inr ⟨k, h1, h2, h3, h4, h5, Nat.lt_of_lt_of_le h6 hn, (hk k h4 h6).trans h7⟩

/-- copyCheck -/
theorem copy_run {M : AMem} {b : Nat} {p u : Option (Nat × Nat)} {l : Nat} {c : Option Nat} {bs : Bs} (h : BAt M b p u l c bs) (hp : p = none ∨ p = some (b, 0)) {m : Nat} (hm : 1 ≤ m) :
    ∃ M', call m fCopy [.ptr (some (b, 0))] M = some (.tup [], M') ∧ BAt M' b (some (b, 0)) u l c bs ∧ M'.next = M.next ∧ ∀ q, q ≠ b → M'.get q = M.get q := by
  obtain ⟨m, rfl⟩ : ∃ k, m = k + 1 := ⟨m - 1, by omega⟩
  obtain ⟨i, hi, hs⟩ := i37
  obtain ⟨j, hj, hjs⟩ := i34
  rcases hp with rfl | rfl
  · refine ⟨M.set b (.cells [.ptr (some (b, 0)), .slice u l c] 0 (.of tB)), ?_, ⟨h.lt, h.pos, by rw [AMem.get_set, if_pos rfl], h.buf.moved (Nat.le_refl _) fun k h1 h2 => by rw [AMem.get_set, if_neg (by omega)]⟩, rfl, fun q hq => by rw [AMem.get_set, if_neg hq]⟩
    rw [call, acall_run Tryz.func19 (hk (by decide)), copyF_eq, h.row]
    have e1 : toUnsK Tryz.prog M 36 (.ptr (some (b, 0))) (fun v M' => fromUnsK Tryz.prog M' 36 v fun v M' => bindO (storeA Tryz.prog M' 33 (b, 0) v) fun M' => some (AV.tup [], M')) = fromUnsK Tryz.prog M 36 (.ptr (some (b, 0))) fun v M' => bindO (storeA Tryz.prog M' 33 (b, 0) v) fun M' => some (AV.tup [], M') := by
      unfold toUnsK
      simp only [hi, h.row]
      show sureB (!(Nat.beq i.size 0) && Nat.blt 0 2) _ = _
      rw [hs]
      rfl
    have e2 : (fromUnsK Tryz.prog M 36 (.ptr (some (b, 0))) fun v M' => bindO (storeA Tryz.prog M' 33 (b, 0) v) fun M' => some (AV.tup [], M')) = bindO (storeA Tryz.prog M 33 (b, 0) (.ptr (some (b, 0)))) fun M' => some (AV.tup [], M') := by
      unfold fromUnsK
      simp only [hi, h.get, c37]
      rfl
    have e3 : storeA Tryz.prog M 33 (b, 0) (.ptr (some (b, 0))) = some (M.set b (.cells [.ptr (some (b, 0)), .slice u l c] 0 (.of tB))) := by
      unfold storeA
      simp only [h.get, Tryz.underlying33, hj, hjs]
      rfl
    simp only [bO, List.getElem?_cons_zero, aP, eN, show (true != false) = true from rfl, iT]
    rw [e1, e2, e3]
    rfl
  · refine ⟨M, ?_, h, rfl, fun _ _ => rfl⟩
    rw [call, acall_run Tryz.func19 (hk (by decide)), copyF_eq, h.row]
    have e1 : eqA Tryz.prog M 12 33 (.ptr (some (b, 0))) (.ptr (some (b, 0))) = some true := by
      unfold eqA
      simp only [Tryz.underlying33, hi, hs]
      simp
    show bindO (eqA Tryz.prog M 12 33 (.ptr (some (b, 0))) (.ptr (some (b, 0)))) _ = _
    rw [e1]
    rfl

theorem _root_.Go.Ab.Bld.at' {M : AMem} {b : Nat} {bs : Bs} (h : Bld tB tU M b bs) : ∃ p u l c, (p = none ∨ p = some (b, 0)) ∧ BAt M b p u l c bs := by
  obtain ⟨h1, h2, p, u, l, c, h3, h4, h5⟩ := h
  exact ⟨p, u, l, c, h3, h1, h2, h4, h5⟩

theorem BAt.bld {M : AMem} {b : Nat} {u : Option (Nat × Nat)} {l : Nat} {c : Option Nat} {bs : Bs} (h : BAt M b (some (b, 0)) u l c bs) : Bld tB tU M b bs := ⟨h.lt, h.pos, _, u, l, c, .inr rfl, h.get, h.buf⟩

/-- what the writing methods come to, behind copyCheck -/
theorem grow_at {M : AMem} {b : Nat} {u : Option (Nat × Nat)} {l : Nat} {c : Option Nat} {bs t : Bs} (h : BAt M b (some (b, 0)) u l c bs) (ht : t ≠ []) :
    ∃ M', growA M tU (.of tU) 1 u l c t.length (strOfBytes t) = some ((some (M.next, 0), l + t.length, none), M') ∧ M'.get b = some (.cells [.ptr (some (b, 0)), .slice u l c] 0 (.of tB)) ∧
      Bld tB tU (M'.set b (.cells [.ptr (some (b, 0)), .slice (some (M.next, 0)) (l + t.length) none] 0 (.of tB))) b (bs ++ t) ∧
      Keeps b M (M'.set b (.cells [.ptr (some (b, 0)), .slice (some (M.next, 0)) (l + t.length) none] 0 (.of tB))) := by
  obtain ⟨M', h1, h2, h3, h4⟩ := grow_buf h.buf ht (show b + 1 ≤ M.next from h.lt) (by have := h.lt; omega)
  have hb : M'.get b = M.get b := h4 b h.lt fun k hk e => by
    rcases h.buf.is with ⟨_, h5, _⟩ | ⟨k', h5, _, _, h6, _⟩
    · rw [h5] at hk; cases hk
    · rw [h5] at hk; cases hk; omega
  refine ⟨M', h1, hb.trans h.get, ⟨by rw [AMem.next_set, h3]; have := h.lt; omega, h.pos, some (b, 0), some (M.next, 0), l + t.length, none, .inr rfl, by rw [AMem.get_set, if_pos rfl], h2.moved (Nat.le_refl _) fun k hk1 hk2 => by rw [AMem.get_set, if_neg (by omega)]⟩, ⟨by rw [AMem.next_set, h3]; omega, fun q hq => ?_⟩⟩
  rw [AMem.get_set, if_neg (by omega)]
  refine h4 q (by have := h.lt; omega) fun k hk e => ?_
  rcases h.buf.is with ⟨_, h5, _⟩ | ⟨k', h5, _, _, h6, _⟩
  · rw [h5] at hk; cases hk
  · rw [h5] at hk; cases hk; omega

theorem wb_run {M : AMem} {b : Nat} {bs : Bs} (h : Bld tB tU M b bs) (x : UInt8) (hl : bs.length + 1 ≤ roomA) {m : Nat} (hm : 2 ≤ m) :
    ∃ M', call m fWB [.ptr (some (b, 0)), .int .u8 x.toNat] M = some (.nilIface, M') ∧ Bld tB tU M' b (bs ++ [x]) ∧ Keeps b M M' := by
  obtain ⟨m, rfl⟩ : ∃ k, m = k + 1 := ⟨m - 1, by omega⟩
  obtain ⟨p, u, l, c, hp, hat⟩ := h.at'
  obtain ⟨M1, r1, h1, n1, g1⟩ := copy_run hat hp (show 1 ≤ m by omega)
  obtain ⟨i, hi, his, hib⟩ := i5
  have h2 : BAt (M1.new (.cells [.int .u8 x.toNat] 0 .yes)) b (some (b, 0)) u l c bs :=
    ⟨Nat.lt_succ_of_lt h1.lt, h1.pos, by rw [AMem.get_new, if_neg (by have := h1.lt; omega)]; exact h1.get, h1.buf.moved (Nat.le_succ _) fun k _ hk => by rw [AMem.get_new, if_neg (by omega)]⟩
  obtain ⟨M2, r2, g2, h3, k3⟩ := grow_at h2 (t := [x]) (by simp)
  have hlen := h1.buf.len
  refine ⟨_, ?_, h3, ((⟨by rw [n1]; exact Nat.le_refl _, fun q hq => g1 q (by omega)⟩ : Keeps b M M1).trans (Keeps.new _ (Nat.le_of_lt h1.lt)) (Nat.le_refl _)).trans k3 (Nat.le_refl _)⟩
  rw [call, acall_run Tryz.func10 (hk (by decide)), wb_eq]
  have r1' : acall Tryz.prog HK m 19 [.ptr (some (b, 0))] M = some (.tup [], M1) := r1
  rw [r1']
  show bindO (bindO (M1.row b) fun a => a[1]?) _ = _
  rw [h1.row]
  show bindO (appendA Tryz.prog (M1.new (.cells [.int .u8 x.toNat] 0 .yes)) 34 34 u l c (.slice (some (M1.next, 0)) 1 (some 1))) _ = _
  rw [append_byte Tryz.underlying34 Tryz.underlying5 hi z5 rfl his hib (x := x) (row_cells (by rw [AMem.get_new, if_pos rfl])) (by omega)]
  have r2' : growA (M1.new (.cells [.int .u8 x.toNat] 0 .yes)) 5 (.of 5) 1 u l c 1 (strOfBytes [x]) = some ((some (M1.next + 1, 0), l + 1, none), M2) := r2
  rw [r2']
  show bindO (getCells (M2.get b) _) _ = _
  rw [g2]
  rfl

theorem ws_run {M : AMem} {b : Nat} {bs : Bs} (h : Bld tB tU M b bs) {t : Bs} (ht : t ≠ []) (hl : bs.length + t.length ≤ roomA) {m : Nat} (hm : 2 ≤ m) :
    ∃ M', call m fWS [.ptr (some (b, 0)), .str t] M = some (.tup [.int .i64 t.length, .nilIface], M') ∧ Bld tB tU M' b (bs ++ t) ∧ Keeps b M M' := by
  obtain ⟨m, rfl⟩ : ∃ k, m = k + 1 := ⟨m - 1, by omega⟩
  obtain ⟨p, u, l, c, hp, hat⟩ := h.at'
  obtain ⟨M1, r1, h1, n1, g1⟩ := copy_run hat hp (show 1 ≤ m by omega)
  obtain ⟨i, hi, his, hib⟩ := i5
  obtain ⟨M2, r2, g2, h3, k3⟩ := grow_at h1 ht
  have hlen := h1.buf.len
  refine ⟨_, ?_, h3, (⟨by rw [n1]; exact Nat.le_refl _, fun q hq => g1 q (by omega)⟩ : Keeps b M M1).trans k3 (Nat.le_refl _)⟩
  rw [call, acall_run Tryz.func15 (hk (by decide)), ws_eq]
  have r1' : acall Tryz.prog HK m 19 [.ptr (some (b, 0))] M = some (.tup [], M1) := r1
  rw [r1']
  show bindO (bindO (M1.row b) fun a => a[1]?) _ = _
  rw [h1.row]
  show bindO (appendA Tryz.prog M1 34 9 u l c (.str t)) _ = _
  rw [append_str Tryz.underlying34 Tryz.underlying9 Tryz.underlying5 hi z5 rfl his hib (by omega), r2]
  show bindO (getCells (M2.get b) _) _ = _
  rw [g2]
  rfl

theorem strB_run {M : AMem} {b : Nat} {bs : Bs} (h : Bld tB tU M b bs) (hl : bs.length ≤ roomA) {m : Nat} (hm : 1 ≤ m) :
    ∃ M', call m fStr [.ptr (some (b, 0))] M = some (.str bs, M') ∧ Keeps b M M' := by
  obtain ⟨m, rfl⟩ : ∃ k, m = k + 1 := ⟨m - 1, by omega⟩
  obtain ⟨p, u, l, c, hp, hat⟩ := h.at'
  have hlen := hat.buf.len
  rcases hat.buf.is with ⟨rfl, rfl, rfl⟩ | ⟨k, rfl, rfl, hpos, hlk, hk0, hkn, hg⟩
  · have hl0 : l = 0 := hlen
    subst hl0
    refine ⟨M, ?_, Keeps.refl b M⟩
    rw [call, acall_run Tryz.func12 (hk (by decide)), str_eq, hat.row]
    simp only [bO, aL, eS, List.getElem?_cons_succ, List.getElem?_cons_zero, sdataK, beqA_int, beqA_sl, beqA_ptr, needB]
    rfl
  · obtain ⟨l', rfl⟩ : ∃ l', l = l' + 1 := ⟨l - 1, by omega⟩
    refine ⟨M.set k (.cells (strOfBytes bs) 1 (.fz tU (max 0 (l' + 1)))), ?_, Keeps.set _ (by omega)⟩
    rw [call, acall_run Tryz.func12 (hk (by decide)), str_eq, hat.row]
    simp only [bO, aL, eS, List.getElem?_cons_succ, List.getElem?_cons_zero, sdataK, beqA_int, beqA_sl, beqA_ptr, needB]
    have e1 : cellsFrom M (k, 0) (l' + 1) = some (strOfBytes bs) := by
      unfold cellsFrom
      rw [show M.row (k, 0).1 = some (strOfBytes bs) from row_cells hg]
      have e2 : (strOfBytes bs).length = l' + 1 := by rw [strOfBytes_len, hlen]
      simp only [Nat.zero_add, e2, Nat.le_refl, if_true, List.drop_zero, List.take_of_length_le (Nat.le_of_eq e2)]
    have e3 : Nat.ble (l' + 1) 9223372036854775807 = true := by
      rw [Nat.ble_eq]; unfold roomA at hl; omega
    unfold ustrK
    show (match M.get k, Tryz.prog.underlying 51 with | some (.cells c sz cl), some (.pointer e) => _ | _, _ => none) = _
    simp only [hg, Tryz.underlying51]
    show bindO (cellsFrom M (k, 0) (l' + 1)) _ = _
    rw [e1]
    show bindO (bytesOf (strOfBytes bs)) _ = _
    rw [bytesOf_str]
    show sureB (Nat.beq 5 5 && (Nat.beq 0 0 && (Nat.beq (Tryz.prog.cellsOf 5) 1 && Nat.ble (l' + 1) 9223372036854775807))) _ = _
    rw [e3, c5]
    rfl
end Go.Proofs.YtjgionikigpdmaaGreatDoor
