/-
  A slice of bytes that grew of nothing, told of the abstract memory (strings.Builder's).
-/
import Derived.Test.YtjgionikigpdmaaGreatDoorAbLaw
namespace Go.Ab
set_option linter.unusedVariables false

/-- what is below 'b' stays -/
structure Keeps (b : Nat) (M M' : AMem) : Prop where
  next : M.next ≤ M'.next
  get : ∀ q, q < b → M'.get q = M.get q

theorem Keeps.refl (b : Nat) (M : AMem) : Keeps b M M := ⟨Nat.le_refl _, fun _ _ => rfl⟩
theorem Keeps.trans {a b : Nat} {M M1 M2 : AMem} (h : Keeps a M M1) (k : Keeps b M1 M2) (hab : a ≤ b) : Keeps a M M2 := ⟨Nat.le_trans h.next k.next, fun q hq => (k.get q (by omega)).trans (h.get q hq)⟩
theorem Keeps.row {b : Nat} {M M' : AMem} (h : Keeps b M M') {q : Nat} (hq : q < b) : M'.row q = M.row q := by unfold AMem.row; rw [h.get q hq]
theorem Keeps.new {b : Nat} {M : AMem} (B : ABlk) (h : b ≤ M.next) : Keeps b M (M.new B) := ⟨Nat.le_succ _, fun q hq => by rw [AMem.get_new, if_neg (by omega)]⟩
theorem Keeps.set {b a : Nat} {M : AMem} (B : ABlk) (h : b ≤ a) : Keeps b M (M.set a B) := ⟨Nat.le_refl _, fun q hq => by rw [AMem.get_set, if_neg (by omega)]⟩
theorem Keeps.kill {b a : Nat} {M : AMem} (h : b ≤ a) : Keeps b M (M.kill a) := ⟨Nat.le_refl _, fun q hq => by rw [AMem.get_kill, if_neg (by omega)]⟩
theorem Keeps.less {a b : Nat} {M M' : AMem} (h : Keeps b M M') (hab : a ≤ b) : Keeps a M M' := ⟨h.next, fun q hq => h.get q (by omega)⟩

/-- a slice of bytes that holds 'bs'; its row lies from 'lo' on -/
structure Buf (e : TypeId) (lo : Nat) (M : AMem) (u : Option (Nat × Nat)) (l : Nat) (c : Option Nat) (bs : List UInt8) : Prop where
  len : l = bs.length
  is : (bs = [] ∧ u = none ∧ c = some 0) ∨ (∃ k, u = some (k, 0) ∧ c = none ∧ 0 < l ∧ lo ≤ k ∧ 0 < k ∧ k < M.next ∧ M.get k = some (.cells (strOfBytes bs) 1 (.of e)))

theorem strOfBytes_len (s : List UInt8) : (strOfBytes s).length = s.length := by simp [strOfBytes]
theorem strOfBytes_append (s t : List UInt8) : strOfBytes (s ++ t) = strOfBytes s ++ strOfBytes t := by simp [strOfBytes]
theorem strOfBytes_flat : ∀ s : List UInt8, (strOfBytes s).all flatA = true
  | [] => rfl
  | a :: s => by
    show (flatA (.int .u8 a.toNat) && (strOfBytes s).all flatA) = true
    rw [strOfBytes_flat s]; rfl

theorem grow_buf {e : TypeId} {lo : Nat} {M : AMem} {u : Option (Nat × Nat)} {l : Nat} {c : Option Nat} {bs t : List UInt8} (h : Buf e lo M u l c bs) (ht : t ≠ []) (hlo : lo ≤ M.next) (h0 : 0 < M.next) :
    ∃ M', growA M e (.of e) 1 u l c t.length (strOfBytes t) = some ((some (M.next, 0), l + t.length, none), M') ∧ Buf e lo M' (some (M.next, 0)) (l + t.length) none (bs ++ t) ∧ M'.next = M.next + 1 ∧
      ∀ q, q < M.next → (∀ k, u = some (k, 0) → q ≠ k) → M'.get q = M.get q := by
  have htl : t.length ≠ 0 := fun e => ht (List.eq_nil_of_length_eq_zero e)
  have hlen := h.len
  rcases h.is with ⟨rfl, rfl, rfl⟩ | ⟨k, rfl, rfl, hpos, hlk, hk0, hkn, hg⟩
  · have hl : l = 0 := hlen
    subst hl
    refine ⟨M.new (.cells (strOfBytes t) 1 (.of e)), ?_, ⟨by simp, .inr ⟨M.next, rfl, rfl, by omega, hlo, h0, Nat.lt_succ_self _, ?_⟩⟩, rfl, fun q hq _ => ?_⟩
    · unfold growA srcCells
      rw [if_neg htl]
      simp only
      rw [if_neg (show ¬ 0 + t.length ≤ 0 by omega)]
      simp only [if_true, List.nil_append]
    · rw [AMem.get_new, if_pos rfl]; simp
    · rw [AMem.get_new, if_neg (by omega)]
  · have hold : srcCells M 1 l (.slice (some (k, 0)) l none) = some (strOfBytes bs) := by
      unfold srcCells
      simp only [Nat.le_refl, if_true, show ¬ l = 0 by omega, if_false]
      unfold cellsFrom
      rw [show M.row (k, 0).1 = some (strOfBytes bs) from row_cells hg]
      have e1 : (strOfBytes bs).length = l := by rw [strOfBytes_len, hlen]
      simp only [Nat.mul_one, Nat.zero_add, e1, Nat.le_refl, if_true, List.drop_zero, List.take_of_length_le (Nat.le_of_eq e1)]
    have hput : putAt (strOfBytes bs) (0 + l * 1) (strOfBytes t) = none := by
      unfold putAt
      rw [if_neg]
      rw [strOfBytes_len, strOfBytes_len]; omega
    refine ⟨(M.kill k).new (.cells (strOfBytes bs ++ strOfBytes t) 1 (.of e)), ?_, ⟨by rw [List.length_append, hlen], .inr ⟨M.next, rfl, rfl, by omega, hlo, h0, Nat.lt_succ_self _, ?_⟩⟩, rfl, fun q hq hne => ?_⟩
    · unfold growA
      rw [if_neg htl]
      have hre : Cl.re e (.of e) = .of e := by unfold Cl.re; simp
      have hc : (0 < l ∨ k ≠ 0) ∧ True ∧ (strOfBytes t).all flatA = true := ⟨.inl hpos, trivial, strOfBytes_flat t⟩
      simp only [hg]
      rw [if_pos hc, hput]
      simp only [hold, hre]
      have hgr : (Cl.grows e 0 (.of e) && (Cl.of e).fzn.ble (0 + l * 1)) = true := by
        simp [Cl.grows, Cl.fzn]
      rw [hgr]
      rfl
    · rw [strOfBytes_append, AMem.get_new, AMem.next_kill, if_pos rfl]
    · rw [AMem.get_new, AMem.next_kill, if_neg (by omega), AMem.get_kill, if_neg (hne k rfl)]

/-- 'append' of a text to bytes -/
theorem append_str {P : Program} {st xt e : TypeId} {ie : TypeInfo} {z : AV} (hu : P.underlying st = some (.slice e)) (hx : P.underlying xt = some .string) (he : P.underlying e = some (.int .u8)) (hi : P.info? e = some ie) (hz : zeroA P e = some z) (h1 : z.cells.length = 1) (h2 : ie.size = 1) (h3 : ie.bytes = 1)
    {M : AMem} {u : Option (Nat × Nat)} {l : Nat} {c : Option Nat} {t : List UInt8} (hl : l + t.length ≤ roomA) :
    appendA P M st xt u l c (.str t) = growA M e (.of e) 1 u l c t.length (strOfBytes t) := by
  have hb : byteCl P e = .of e := by unfold byteCl; rw [he]
  have hsrc : srcCells M 1 t.length (.str t) = some (strOfBytes t) := by
    unfold srcCells
    simp
  unfold appendA
  simp only [hu, hx, hi, hz, h1, h2, h3, hb, ne_eq, not_true_eq_false, Nat.one_ne_zero, or_self, if_false, srcLen, Option.map_some, hsrc, Nat.mul_one]
  rw [if_pos ⟨hl, hl⟩]

/-- 'append' of one byte -/
theorem append_byte {P : Program} {st e : TypeId} {ie : TypeInfo} {z : AV} (hu : P.underlying st = some (.slice e)) (he : P.underlying e = some (.int .u8)) (hi : P.info? e = some ie) (hz : zeroA P e = some z) (h1 : z.cells.length = 1) (h2 : ie.size = 1) (h3 : ie.bytes = 1)
    {M : AMem} {u : Option (Nat × Nat)} {l : Nat} {c : Option Nat} {x : UInt8} {a : Nat} {k : Option Nat} (ha : M.row a = some [.int .u8 x.toNat]) (hl : l + 1 ≤ roomA) :
    appendA P M st st u l c (.slice (some (a, 0)) 1 k) = growA M e (.of e) 1 u l c 1 (strOfBytes [x]) := by
  have hb : byteCl P e = .of e := by unfold byteCl; rw [he]
  have hsrc : srcCells M 1 1 (.slice (some (a, 0)) 1 k) = some (strOfBytes [x]) := by
    unfold srcCells
    simp only [Nat.le_refl, if_true, Nat.one_ne_zero, if_false]
    unfold cellsFrom
    rw [show M.row (a, 0).1 = some [.int .u8 x.toNat] from ha]
    simp [strOfBytes]
  unfold appendA
  simp only [hu, hi, hz, h1, h2, h3, hb, ne_eq, not_true_eq_false, Nat.one_ne_zero, or_self, if_false, srcLen, Option.map_some, hsrc, Nat.mul_one]
  rw [if_pos ⟨hl, hl⟩]

theorem bytesOf_str : ∀ s : List UInt8, bytesOf (strOfBytes s) = some s
  | [] => rfl
  | a :: s => by
    show bytesOf (.int .u8 a.toNat :: strOfBytes s) = _
    rw [bytesOf, bytesOf_str s]
    simp

/-- a strings.Builder in block 'b' that holds 'bs'; 'T' is its type, 'e' a byte's -/
structure Bld (T e : TypeId) (M : AMem) (b : Nat) (bs : List UInt8) : Prop where
  lt : b < M.next
  pos : 0 < b
  is : ∃ (p : Option (Nat × Nat)) (u : Option (Nat × Nat)) (l : Nat) (c : Option Nat), (p = none ∨ p = some (b, 0)) ∧ M.get b = some (.cells [.ptr p, .slice u l c] 0 (.of T)) ∧ Buf e (b + 1) M u l c bs

theorem Bld.fresh {T e : TypeId} (M : AMem) (h : 0 < M.next) : Bld T e (M.new (.cells [.ptr none, .slice none 0 (some 0)] 0 (.of T))) M.next [] :=
  ⟨Nat.lt_succ_self _, h, none, none, 0, some 0, .inl rfl, by rw [AMem.get_new, if_pos rfl], rfl, .inl ⟨rfl, rfl, rfl⟩⟩

/-- what comes and goes from behind all that is there leaves a builder as it was -/
theorem Bld.keeps {T e : TypeId} {M M' : AMem} {b : Nat} {bs : List UInt8} (h : Bld T e M b bs) (k : Keeps M.next M M') : Bld T e M' b bs := by
  obtain ⟨h1, h2, p, u, l, c, hp, hg, hl, hb⟩ := h
  refine ⟨Nat.lt_of_lt_of_le h1 k.next, h2, p, u, l, c, hp, (k.get b h1).trans hg, hl, ?_⟩
  rcases hb with hb | ⟨j, a1, a2, a3, a4, a5, a6, a7⟩
  · exact .inl hb
  · exact .inr ⟨j, a1, a2, a3, a4, a5, Nat.lt_of_lt_of_le a6 k.next, (k.get j a6).trans a7⟩
end Go.Ab
