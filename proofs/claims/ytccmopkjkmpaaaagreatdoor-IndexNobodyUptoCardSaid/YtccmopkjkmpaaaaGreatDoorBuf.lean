/-
  A slice of bytes that grew of nothing, told of the abstract memory (strings.Builder's).
-/
import Derived.Test.YtccmopkjkmpaaaaGreatDoorAbLaw
namespace Go.Ab
set_option linter.unusedVariables false

/-- what is below 'b' stays -/
structure Keeps (b : Nat) (M M' : AMem) : Prop where
  next : M.next ≤ M'.next
  get : ∀ q, q < b → M'.get q = M.get q

theorem Keeps.refl (b : Nat) (M : AMem) : Keeps b M M := ⟨Nat.le_refl _, fun _ _ => rfl⟩
theorem Keeps.trans {a b : Nat} {M M1 M2 : AMem} (h : Keeps a M M1) (k : Keeps b M1 M2) (hab : a ≤ b) : Keeps a M M2 := ⟨Nat.le_trans h.next k.next, fun q hq => (k.get q (by omega)).trans (h.get q hq)⟩
theorem Keeps.row {b : Nat} {M M' : AMem} (h : Keeps b M M') {q : Nat} (hq : q < b) : M'.row q = M.row q := by unfold AMem.row; rw [h.get q hq]
theorem Keeps.new {b : Nat} {M : AMem} (B : ABlk) (h : b ≤ M.next) : Keeps b M (M.new B) := ⟨Nat.le_succ _, fun q hq => by rw [AMem.get_new, if_neg (by omega)]⟩
theorem Keeps.set {b a : Nat} {M : AMem} (B : ABlk) (h : b ≤ a) : Keeps b M (M.set a B) := ⟨Nat.le_refl _, fun q hq => by rw [AMem.get_set, if_neg (by omega)]⟩
theorem Keeps.kill {b a : Nat} {M : AMem} (h : b ≤ a) : Keeps b M (M.kill a) := ⟨Nat.le_refl _, fun q hq => by rw [AMem.get_kill, if_neg (by omega)]⟩
theorem Keeps.less {a b : Nat} {M M' : AMem} (h : Keeps b M M') (hab : a ≤ b) : Keeps a M M' := ⟨h.next, fun q hq => h.get q (by omega)⟩

/-- a slice of bytes that holds 'bs'; its row lies from 'lo' on -/
structure Buf (e : TypeId) (lo : Nat) (M : AMem) (u : Option (Nat × Nat)) (l : Nat) (c : Option Nat) (bs : List UInt8) : Prop where
  len : l = bs.length
  is : (bs = [] ∧ u = none ∧ c = some 0) ∨ (∃ k, u = some (k, 0) ∧ c = none ∧ 0 < l ∧ lo ≤ k ∧ 0 < k ∧ k < M.next ∧ M.get k = some (.cells (strOfBytes bs) 1 (.of e)))

theorem strOfBytes_len (s : List UInt8) : (strOfBytes s).length = s.length := by simp [strOfBytes]
theorem strOfBytes_append (s t : List UInt8) : strOfBytes (s ++ t) = strOfBytes s ++ strOfBytes t := by simp [strOfBytes]
theorem strOfBytes_flat : ∀ s : List UInt8, (strOfBytes s).all flatA = true
  | [] => rfl
  | a :: s => by
    show (flatA (.int .u8 a.toNat) && (strOfBytes s).all flatA) = true
    rw [strOfBytes_flat s]; rfl

theorem grow_buf {e : TypeId} {lo : Nat} {M : AMem} {u : Option (Nat × Nat)} {l : Nat} {c : Option Nat} {bs t : List UInt8} (h : Buf e lo M u l c bs) (ht : t ≠ []) (hlo : lo ≤ M.next) (h0 : 0 < M.next) :
    ∃ M', growA M e (.of e) 1 u l c t.length (strOfBytes t) = some ((some (M.next, 0), l + t.length, none), M') ∧ Buf e lo M' (some (M.next, 0)) (l + t.length) none (bs ++ t) ∧ M'.next = M.next + 1 ∧
      ∀ q, q < M.next → (∀ k, u = some (k, 0) → q ≠ k) → M'.get q = M.get q := by
  have htl : t.length ≠ 0 := fun e => ht (List.eq_nil_of_length_eq_zero e)
  have hlen := h.len
  rcases h.is with ⟨rfl, rfl, rfl⟩ | ⟨k, rfl, rfl, hpos, hlk, hk0, hkn, hg⟩
  · have hl : l = 0 := hlen
    subst hl
    refine ⟨M.new (.cells (strOfBytes t) 1 (.of e)), ?_, ⟨by simp, .inr ⟨M.next, rfl, rfl, by omega, hlo, h0, Nat.lt_succ_self _, ?_⟩⟩, rfl, fun q hq _ => ?_⟩
    · unfold growA srcCells
      rw [if_neg htl]
      simp only
      rw [if_neg (show ¬ 0 + t.length ≤ 0 by omega)]
      simp only [if_true, List.nil_append]
    · rw [AMem.get_new, if_pos rfl]; simp
    · rw [AMem.get_new, if_neg (by omega)]
  · have hold : srcCells M 1 l (.slice (some (k, 0)) l none) = some (strOfBytes bs) := by
      unfold srcCells
      simp only [Nat.le_refl, if_true, show ¬ l = 0 by omega, if_false]
      unfold cellsFrom
      rw [show M.row (k, 0).1 = some (strOfBytes bs) from row_cells hg]
      have e1 : (strOfBytes bs).length = l := by rw [strOfBytes_len, hlen]
      simp only [Nat.mul_one, Nat.zero_add, e1, Nat.le_refl, if_true, List.drop_zero, List.take_of_length_le (Nat.le_of_eq e1)]
    have hput : putAt (strOfBytes bs) (0 + l * 1) (strOfBytes t) = none := by
      unfold putAt
      rw [if_neg]
      rw [strOfBytes_len, strOfBytes_len]; omega
    refine ⟨(M.kill k).new (.cells (strOfBytes bs ++ strOfBytes t) 1 (.of e)), ?_, ⟨by rw [List.length_append, hlen], .inr ⟨M.next, rfl, rfl, by omega, hlo, h0, Nat.lt_succ_self _, ?_⟩⟩, rfl, fun q hq hne => ?_⟩
    · unfold growA
      rw [if_neg htl]
      have hre : Cl.re e (.of e) = .of e := by unfold Cl.re; simp
      have hc : (0 < l ∨ k ≠ 0) ∧ True ∧ (strOfBytes t).all flatA = true := ⟨.inl hpos, trivial, strOfBytes_flat t⟩
      simp only [hg]
      rw [if_pos hc, hput]
      simp only [hold, hre]
      have hgr : (Cl.grows e 0 (.of e) && (Cl.of e).fzn.ble (0 + l * 1)) = true := by
        simp [Cl.grows, Cl.fzn]
      rw [hgr]
      rfl
    · rw [strOfBytes_append, AMem.get_new, AMem.next_kill, if_pos rfl]
    · rw [AMem.get_new, AMem.next_kill, if_neg (by omega), AMem.get_kill, if_neg (hne k rfl)]

/-- 'append' of a text to bytes -/
theorem append_str {P : Program} {st xt e : TypeId} {ie : TypeInfo} {z : AV} (hu : P.underlying st = some (.slice e)) (hx : P.underlying xt = some .string) (he : P.underlying e = some (.int .u8)) (hi : P.info? e = some ie) (hz : zeroA P e = some z) (h1 : z.cells.length = 1) (h2 : ie.size = 1) (h3 : ie.bytes = 1)
    {M : AMem} {u : Option (Nat × Nat)} {l : Nat} {c : Option Nat} {t : List UInt8} (hl : l + t.length ≤ roomA) :
    appendA P M st xt u l c (.str t) = growA M e (.of e) 1 u l c t.length (strOfBytes t) := by
  have hb : byteCl P e = .of e := by unfold byteCl; rw [he]
  have hsrc : srcCells M 1 t.length (.str t) = some (strOfBytes t) := by
    unfold srcCells
    simp
  unfold appendA
  simp only [hu, hx, hi, hz, h1, h2, h3, hb, ne_eq, not_true_eq_false, Nat.one_ne_zero, or_self, if_false, srcLen, Option.map_some, hsrc, Nat.mul_one]
  rw [if_pos ⟨hl, hl⟩]

/-- 'append' of one byte -/
theorem append_byte {P : Program} {st e : TypeId} {ie : TypeInfo} {z : AV} (hu : P.underlying st = some (.slice e)) (he : P.underlying e = some (.int .u8)) (hi : P.info? e = some ie) (hz : zeroA P e = some z) (h1 : z.cells.length = 1) (h2 : ie.size = 1) (h3 : ie.bytes = 1)
    {M : AMem} {u : Option (Nat × Nat)} {l : Nat} {c : Option Nat} {x : UInt8} {a : Nat} {k : Option Nat} (ha : M.row a = some [.int .u8 x.toNat]) (hl : l + 1 ≤ roomA) :
    appendA P M st st u l c (.slice (some (a, 0)) 1 k) = growA M e (.of e) 1 u l c 1 (strOfBytes [x]) := by
  have hb : byteCl P e = .of e := by unfold byteCl; rw [he]
  have hsrc : srcCells M 1 1 (.slice (some (a, 0)) 1 k) = some (strOfBytes [x]) := by
    unfold srcCells
    simp only [Nat.le_refl, if_true, Nat.one_ne_zero, if_false]
    unfold cellsFrom
    rw [show M.row (a, 0).1 = some [.int .u8 x.toNat] from ha]
    simp [strOfBytes]
  unfold appendA
  simp only [hu, hi, hz, h1, h2, h3, hb, ne_eq, not_true_eq_false, Nat.one_ne_zero, or_self, if_false, srcLen, Option.map_some, hsrc, Nat.mul_one]
  rw [if_pos ⟨hl, hl⟩]

theorem bytesOf_str : ∀ s : List UInt8, bytesOf (strOfBytes s) = some s
  | [] => rfl
  | a :: s => by
    show bytesOf (.int .u8 a.toNat :: strOfBytes s) = _
    rw [bytesOf, bytesOf_str s]
    simp

/-- a strings.Builder in block 'b' that holds 'bs'; 'T' is its type, 'e' a byte's -/
structure Bld (T e : TypeId) (M : AMem) (b : Nat) (bs : List UInt8) : Prop where
  lt : b < M.next
  pos : 0 < b
  is : ∃ (p : Option (Nat × Nat)) (u : Option (Nat × Nat)) (l : Nat) (c : Option Nat), (p = none ∨ p = some (b, 0)) ∧ M.get b = some (.cells [.ptr p, .slice u l c] 0 (.of T)) ∧ Buf e (b + 1) M u l c bs

theorem Bld.fresh {T e : TypeId} (M : AMem) (h : 0 < M.next) : Bld T e (M.new (.cells [.ptr none, .slice none 0 (some 0)] 0 (.of T))) M.next [] :=
  ⟨Nat.lt_succ_self _, h, none, none, 0, some 0, .inl rfl, by rw [AMem.get_new, if_pos rfl], rfl, .inl ⟨rfl, rfl, rfl⟩⟩

/-- what comes and goes from behind all that is there leaves a builder as it was -/
theorem Bld.keeps {T e : TypeId} {M M' : AMem} {b : Nat} {bs : List UInt8} (h : Bld T e M b bs) (k : Keeps M.next M M') : Bld T e M' b bs := by
  obtain ⟨h1, h2, p, u, l, c, hp, hg, hl, hb⟩ := h
  refine ⟨Nat.lt_of_lt_of_le h1 k.next, h2, p, u, l, c, hp, (k.get b h1).trans hg, hl, ?_⟩
  rcases hb with hb | ⟨j, a1, a2, a3, a4, a5, a6, a7⟩
  · exact .inl hb
  · exact .inr ⟨j, a1, a2, a3, a4, a5, Nat.lt_of_lt_of_le a6 k.next, (k.get j a6).trans a7⟩
end Go.Ab

/-
  Words and dumps, as plain functions on bytes: each text has a word, that is read as it; a dump is read as what was dumped, and what is read as a dump is the dump of what was read.
-/
namespace Go.Words

abbrev Bs := List UInt8

def plainB (c : UInt8) : Bool := decide (33 ≤ c.toNat) && decide (c.toNat ≤ 126) && !(c.toNat == 37) && !(c.toNat == 61)

def hexL : Bs := [48, 49, 50, 51, 52, 53, 54, 55, 56, 57, 97, 98, 99, 100, 101, 102]

def hexD (n : Nat) : UInt8 := hexL.getD n 0

def encB (c : UInt8) : Bs := if plainB c then [c] else [37, hexD (c.toNat / 16), hexD (c.toNat % 16)]

def encL : Bs → Bs
  | [] => []
  | c :: s => encB c ++ encL s

def wordT (s : Bs) : Bs := if s = [] then [45] else if s = [45] then [37, 50, 100] else encL s

def hexV (c : UInt8) : Option Nat :=
  if 48 ≤ c.toNat ∧ c.toNat ≤ 57 then some (c.toNat - 48) else if 97 ≤ c.toNat ∧ c.toNat ≤ 102 then some (c.toNat - 87) else none

/-- a word's bytes, read (fuel: as many rounds as bytes) -/
def decF : Nat → Bs → Option Bs
  | 0, _ => some []
  | _ + 1, [] => some []
  | n + 1, c :: r =>
    if c = 37 then
      match r with
      | a :: b :: r' =>
        match hexV a, hexV b with
        | some x, some y => (decF n r').map (UInt8.ofNat (16 * x + y) :: ·)
        | _, _ => none
      | _ => none
    else (decF n r).map (c :: ·)

def decL (w : Bs) : Option Bs := decF w.length w

theorem decF_more : ∀ (n m : Nat) (w : Bs), w.length ≤ n → n ≤ m → decF m w = decF n w := by
  intro n
  induction n with
  | zero =>
    intro m w h _
    have : w = [] := List.eq_nil_of_length_eq_zero (by omega)
    subst this
    cases m <;> rfl
  | succ n ih =>
    intro m w h hm
    obtain ⟨m, rfl⟩ : ∃ k, m = k + 1 := ⟨m - 1, by omega⟩
    match w with
    | [] => rfl
    | c :: r =>
      unfold decF
      simp only [List.length_cons] at h
      rw [ih m r (by omega) (by omega)]
      match r with
      | [] => rfl
      | [a] => rfl
      | a :: b :: r' =>
        simp only [List.length_cons] at h
        simp only [ih m r' (by omega) (by omega)]

theorem decL_nil : decL [] = some [] := rfl
theorem decL_byte {c : UInt8} (h : c ≠ 37) (r : Bs) : decL (c :: r) = (decL r).map (c :: ·) := by
  unfold decL
  rw [List.length_cons]
  exact if_neg h
theorem decL_hex (a b : UInt8) (r : Bs) : decL (37 :: a :: b :: r) = match hexV a, hexV b with
    | some x, some y => (decL r).map (UInt8.ofNat (16 * x + y) :: ·)
    | _, _ => none := by
  unfold decL
  simp only [List.length_cons]
  rw [show decF (r.length + 1 + 1 + 1) (37 :: a :: b :: r) = (match hexV a, hexV b with
    | some x, some y => (decF (r.length + 1 + 1) r).map (UInt8.ofNat (16 * x + y) :: ·)
    | _, _ => none) by rfl, decF_more r.length (r.length + 1 + 1) r (Nat.le_refl _) (by omega)]
theorem decL_short1 : decL [37] = none := rfl
theorem decL_short2 (a : UInt8) : decL [37, a] = none := rfl

def readW (w : Bs) : Option Bs :=
  if w = [45] then some [] else
  match decL w with
  | none => none
  | some s => if wordT s = w then some s else none

/-! ### each text has a word -/
theorem hexV_hexD : ∀ n : Fin 16, hexV (hexD n) = some n.val := by decide
theorem hexD_ne : ∀ n : Fin 16, hexD n ≠ 10 ∧ hexD n ≠ 61 := by decide

theorem decL_enc (c : UInt8) (r : Bs) : decL (encB c ++ r) = (decL r).map (c :: ·) := by
  unfold encB
  split
  · rename_i h
    have hc : c ≠ 37 := by
      intro e
      subst e
      exact absurd h (by decide)
    exact decL_byte hc r
  · have hb := c.toNat_lt
    have h1 := hexV_hexD ⟨c.toNat / 16, by omega⟩
    have h2 := hexV_hexD ⟨c.toNat % 16, by omega⟩
    show decL (37 :: hexD (c.toNat / 16) :: hexD (c.toNat % 16) :: r) = _
    rw [decL_hex, h1, h2]
    simp only
    rw [show 16 * (c.toNat / 16) + c.toNat % 16 = c.toNat by omega]
    simp

theorem decL_encL : ∀ s : Bs, decL (encL s) = some s
  | [] => rfl
  | c :: s => by
    show decL (encB c ++ encL s) = _
    rw [decL_enc, decL_encL s]; rfl

theorem encB_pos (c : UInt8) : 1 ≤ (encB c).length ∧ (encB c).length ≤ 3 := by
  unfold encB
  split <;> simp

theorem encL_len : ∀ s : Bs, s.length ≤ (encL s).length ∧ (encL s).length ≤ 3 * s.length
  | [] => by simp [encL]
  | c :: s => by
    have h1 := encB_pos c
    have h2 := encL_len s
    simp only [encL, List.length_append, List.length_cons]
    omega

theorem wordT_len (s : Bs) : (wordT s).length ≤ 3 * s.length + 1 := by
  unfold wordT
  split
  · simp
  · split
    · rename_i h; rw [h]; simp
    · have := encL_len s; omega

theorem readW_wordT (s : Bs) : readW (wordT s) = some s := by
  by_cases h0 : s = []
  · subst h0; rfl
  · by_cases h1 : s = [45]
    · subst h1; decide
    · have hw : wordT s = encL s := by unfold wordT; rw [if_neg h0, if_neg h1]
      unfold readW
      rw [if_neg ?_]
      · rw [hw, decL_encL]
        simp only
        rw [hw, if_pos rfl]
      · rw [hw]
        intro e
        have := decL_encL s
        rw [e] at this
        exact h1 (Option.some.inj this).symm

theorem wordT_readW {w s : Bs} (h : readW w = some s) : wordT s = w := by
  unfold readW at h
  split at h
  · rename_i e; cases h; rw [e]; rfl
  · split at h
    · cases h
    · split at h
      · rename_i e; cases h; exact e
      · cases h

theorem encB_ne {c b : UInt8} (h : b ∈ encB c) : b ≠ 10 ∧ b ≠ 61 := by
  unfold encB at h
  split at h
  · rename_i hp
    have := List.mem_singleton.1 h
    subst this
    constructor <;> intro e <;> subst e <;> exact absurd hp (by decide)
  · have hb := c.toNat_lt
    rcases List.mem_cons.1 h with rfl | h
    · decide
    · rcases List.mem_cons.1 h with rfl | h
      · exact hexD_ne ⟨c.toNat / 16, by omega⟩
      · have := List.mem_singleton.1 h
        subst this
        exact hexD_ne ⟨c.toNat % 16, by omega⟩

theorem encL_ne : ∀ {s : Bs} {b : UInt8}, b ∈ encL s → b ≠ 10 ∧ b ≠ 61
  | [], b, h => by simp [encL] at h
  | c :: s, b, h => by
    rcases List.mem_append.1 h with h | h
    · exact encB_ne h
    · exact encL_ne h

theorem wordT_ne {s : Bs} {b : UInt8} (h : b ∈ wordT s) : b ≠ 10 ∧ b ≠ 61 := by
  unfold wordT at h
  split at h
  · have := List.mem_singleton.1 h; subst this; decide
  · split at h
    · simp only [List.mem_cons, List.not_mem_nil, or_false] at h
      rcases h with rfl | rfl | rfl <;> decide
    · exact encL_ne h

/-! ### lines and dumps -/
/-- ahead of the first byte 'c', behind it, and whether there is one -/
def cutB (c : UInt8) : Bs → Bs × Bs × Bool
  | [] => ([], [], false)
  | b :: r => if b = c then ([], r, true) else (b :: (cutB c r).1, (cutB c r).2.1, (cutB c r).2.2)

theorem cutB_len (c : UInt8) : ∀ s : Bs, (cutB c s).1.length + (cutB c s).2.1.length ≤ s.length ∧ (s ≠ [] → (cutB c s).2.1.length < s.length)
  | [] => by simp [cutB]
  | b :: r => by
    have := cutB_len c r
    unfold cutB
    split
    · simp
    · simp only [List.length_cons]
      refine ⟨by omega, fun _ => by omega⟩

theorem cutB_at {c : UInt8} : ∀ {a : Bs} (r : Bs), (∀ b ∈ a, b ≠ c) → cutB c (a ++ c :: r) = (a, r, true)
  | [], r, _ => by simp [cutB]
  | b :: a, r, h => by
    show cutB c (b :: (a ++ c :: r)) = _
    unfold cutB
    rw [if_neg (h b (List.mem_cons_self ..)), cutB_at r fun x hx => h x (List.mem_cons_of_mem _ hx)]

theorem cutB_join {c : UInt8} : ∀ {s a r : Bs}, cutB c s = (a, r, true) → s = a ++ c :: r
  | [], a, r, h => by simp [cutB] at h
  | b :: s, a, r, h => by
    unfold cutB at h
    split at h
    · rename_i e
      cases h
      rw [e]; rfl
    · simp only [Prod.mk.injEq] at h
      obtain ⟨rfl, rfl, h3⟩ := h
      have := cutB_join (c := c) (s := s) (a := (cutB c s).1) (r := (cutB c s).2.1) (by rw [← h3])
      rw [List.cons_append, ← this]

def pairP (line : Bs) : Option (Bs × Bs) :=
  match (cutB 61 line).2.2, readW (cutB 61 line).1, readW (cutB 61 line).2.1 with
  | true, some k, some v => some (k, v)
  | _, _, _ => none

def lineT (p : Bs × Bs) : Bs := wordT p.1 ++ 61 :: (wordT p.2 ++ [10])

def dumpT : List (Bs × Bs) → Bs
  | [] => []
  | p :: l => lineT p ++ dumpT l

/-- the pairs of a dump, and 0, or the number of the first line that is none -/
def readF : Nat → Bs → Nat → List (Bs × Bs) × Nat
  | 0, _, _ => ([], 0)
  | _ + 1, [], _ => ([], 0)
  | f + 1, b :: r, n =>
    match (cutB 10 (b :: r)).2.2, pairP (cutB 10 (b :: r)).1 with
    | true, some p => match readF f (cutB 10 (b :: r)).2.1 (n + 1) with
      | (l, 0) => (p :: l, 0)
      | (_, k + 1) => ([], k + 1)
    | _, _ => ([], n)

def readD (s : Bs) (n : Nat) : List (Bs × Bs) × Nat := readF s.length s n

theorem readF_more : ∀ (f g : Nat) (s : Bs) (n : Nat), s.length ≤ f → f ≤ g → readF g s n = readF f s n := by
  intro f
  induction f with
  | zero =>
    intro g s n h _
    have : s = [] := List.eq_nil_of_length_eq_zero (by omega)
    subst this
    cases g <;> rfl
  | succ f ih =>
    intro g s n h hg
    obtain ⟨g, rfl⟩ : ∃ k, g = k + 1 := ⟨g - 1, by omega⟩
    match s with
    | [] => rfl
    | b :: r =>
      have := (cutB_len 10 (b :: r)).2 (by simp)
      unfold readF
      rw [ih g _ (n + 1) (by omega) (by omega)]

theorem readD_nil (n : Nat) : readD [] n = ([], 0) := rfl
theorem readD_cons {s : Bs} (h : s ≠ []) (n : Nat) : readD s n = match (cutB 10 s).2.2, pairP (cutB 10 s).1 with
    | true, some p => match readD (cutB 10 s).2.1 (n + 1) with
      | (l, 0) => (p :: l, 0)
      | (_, k + 1) => ([], k + 1)
    | _, _ => ([], n) := by
  match s with
  | [] => exact absurd rfl h
  | b :: r =>
    have := (cutB_len 10 (b :: r)).2 (by simp)
    unfold readD
    rw [← readF_more (cutB 10 (b :: r)).2.1.length r.length _ (n + 1) (Nat.le_refl _) (by simp at this; omega)]
    rfl

theorem pairP_line (p : Bs × Bs) : pairP (wordT p.1 ++ 61 :: wordT p.2) = some p := by
  unfold pairP
  rw [cutB_at _ fun b hb => (wordT_ne hb).2, readW_wordT, readW_wordT]

theorem lineT_cut (p : Bs × Bs) (r : Bs) : cutB 10 (lineT p ++ r) = (wordT p.1 ++ 61 :: wordT p.2, r, true) := by
  have e : lineT p ++ r = (wordT p.1 ++ 61 :: wordT p.2) ++ 10 :: r := by unfold lineT; simp
  rw [e]
  refine cutB_at r fun b hb => ?_
  rcases List.mem_append.1 hb with hb | hb
  · exact (wordT_ne hb).1
  · rcases List.mem_cons.1 hb with rfl | hb
    · decide
    · exact (wordT_ne hb).1

theorem lineT_ne (p : Bs × Bs) (r : Bs) : lineT p ++ r ≠ [] := by unfold lineT; simp

theorem readD_dumpT : ∀ (l : List (Bs × Bs)) (n : Nat), readD (dumpT l) n = (l, 0)
  | [], n => rfl
  | p :: l, n => by
    show readD (lineT p ++ dumpT l) n = _
    rw [readD_cons (lineT_ne p _), lineT_cut, pairP_line]
    simp only
    rw [readD_dumpT l (n + 1)]

theorem pairP_join {line : Bs} {p : Bs × Bs} (h : pairP line = some p) : wordT p.1 ++ 61 :: wordT p.2 = line := by
  unfold pairP at h
  split at h
  · rename_i k v h1 h2 h3
    cases h
    have := cutB_join (c := 61) (s := line) (a := (cutB 61 line).1) (r := (cutB 61 line).2.1) (by rw [← h1])
    rw [wordT_readW h2, wordT_readW h3, ← this]
  · cases h

theorem dumpT_readD : ∀ (k : Nat) (s : Bs) (n : Nat) (l : List (Bs × Bs)), s.length ≤ k → readD s (n + 1) = (l, 0) → dumpT l = s := by
  intro k
  induction k with
  | zero =>
    intro s n l h hr
    have : s = [] := List.eq_nil_of_length_eq_zero (by omega)
    subst this
    rw [readD_nil] at hr
    cases hr; rfl
  | succ k ih =>
    intro s n l h hr
    by_cases hs : s = []
    · subst hs; rw [readD_nil] at hr; cases hr; rfl
    · rw [readD_cons hs] at hr
      have hl := (cutB_len 10 s).2 hs
      split at hr
      · rename_i p h1 h2
        split at hr
        · rename_i l' h3
          cases hr
          have e1 := ih _ _ _ (by omega) h3
          have e2 := pairP_join h2
          have e3 := cutB_join (c := 10) (s := s) (a := (cutB 10 s).1) (r := (cutB 10 s).2.1) (by rw [← h1])
          have e4 : lineT p ++ (cutB 10 s).2.1 = (cutB 10 s).1 ++ 10 :: (cutB 10 s).2.1 := by
            rw [← e2]; unfold lineT; simp
          show lineT p ++ dumpT l' = s
          rw [e1]
          exact e4.trans e3.symm
        · cases hr
      · cases hr

end Go.Words

/-
  Words and dumps, told of what the evaluator works out: bytes as numbers, the place of a digit, what is cut at a byte.
-/
namespace Go.Words
open Go Go.Ab
set_option linter.unusedVariables false

theorem bytesEq_iff : ∀ (a b : Bs), bytesEq a b = decide (a = b)
  | [], [] => rfl
  | [], _ :: _ => rfl
  | _ :: _, [] => rfl
  | x :: a, y :: b => by
    show (Nat.beq x.toNat y.toNat && bytesEq a b) = _
    have e1 : Nat.beq x.toNat y.toNat = decide (x = y) := by rw [Bool.eq_iff_iff]; simp [UInt8.toNat_inj]
    rw [bytesEq_iff a b, e1, Bool.eq_iff_iff]
    simp

/-- the value of a hex digit, or -1 -/
def hexI (c : UInt8) : Int := match hexV c with | some x => (x : Int) | none => -1

theorem idx_hex_all : ∀ n : Fin 256, idxL n.val hexL 0 = hexI (UInt8.ofNat n.val) := by decide +kernel

theorem idx_hex (c : UInt8) : idxL (((c.toNat : Int)).toNat % 256) hexL 0 = hexI c := by
  have h := idx_hex_all ⟨c.toNat, c.toNat_lt⟩
  simp only at h
  rw [show ((c.toNat : Int)).toNat % 256 = c.toNat by have := c.toNat_lt; omega, h]
  simp

theorem hexV_lt {c : UInt8} {x : Nat} (h : hexV c = some x) : x < 16 := by
  unfold hexV at h
  split at h
  · cases h; omega
  · split at h
    · cases h; omega
    · cases h

/-- where a byte is first -/
theorem idxL_cut (c : UInt8) : ∀ (s : Bs) (i : Nat), idxL c.toNat s i = if (cutB c s).2.2 then ((i + (cutB c s).1.length : Nat) : Int) else -1
  | [], i => rfl
  | b :: s, i => by
    have e1 : Nat.beq b.toNat c.toNat = decide (b = c) := by rw [Bool.eq_iff_iff]; simp [UInt8.toNat_inj]
    unfold idxL cutB
    rw [e1]
    by_cases h : b = c
    · subst h
      simp
    · simp only [h, decide_false, if_false]
      rw [idxL_cut c s (i + 1)]
      simp only [List.length_cons]
      split
      · congr 1; omega
      · rfl

theorem cutB_none {c : UInt8} : ∀ {s : Bs}, (cutB c s).2.2 = false → (cutB c s).1 = s ∧ (cutB c s).2.1 = []
  | [], _ => ⟨rfl, rfl⟩
  | b :: s, h => by
    unfold cutB at h ⊢
    by_cases e : b = c
    · rw [if_pos e] at h; cases h
    · rw [if_neg e] at h ⊢
      obtain ⟨h1, h2⟩ := cutB_none (s := s) h
      exact ⟨by simp only [h1], h2⟩

theorem cutB_some {c : UInt8} {s : Bs} (h : (cutB c s).2.2 = true) : s = (cutB c s).1 ++ c :: (cutB c s).2.1 := cutB_join (by rw [← h])

theorem cutB_take {c : UInt8} {s : Bs} (h : (cutB c s).2.2 = true) : s.take (cutB c s).1.length = (cutB c s).1 ∧ s.drop ((cutB c s).1.length + 1) = (cutB c s).2.1 := by
  have e := cutB_some h
  generalize (cutB c s).1 = a at e ⊢
  generalize (cutB c s).2.1 = r at e ⊢
  rw [e]
  constructor
  · simp
  · rw [List.drop_append, List.drop_eq_nil_of_le (by omega), show a.length + 1 - a.length = 1 by omega]
    rfl

theorem hexL_at_all : ∀ n : Fin 16, (hexL.take (n.val + 1)).drop n.val = [hexD n.val] := by decide
theorem hexL_at {n : Nat} (h : n < 16) : (hexL.take (n + 1)).drop n = [hexD n] := hexL_at_all ⟨n, h⟩
theorem hexL_len : hexL.length = 16 := rfl
end Go.Words

/-
  Small steps for rounds: counters, bytes, what is cut out of a text.
-/
namespace Go.Words
open Go Go.Ab
set_option linter.unusedVariables false

theorem ltI_nat (a b : Nat) : ltI (a : Int) (b : Int) = decide (a < b) := by
  show Nat.blt a b = _
  rw [Bool.eq_iff_iff]; simp
theorem leI_nat (a b : Nat) : leI (a : Int) (b : Int) = decide (a ≤ b) := by
  show Nat.ble a b = _
  rw [Bool.eq_iff_iff]; simp
theorem eqI_nat (a b : Nat) : eqI (a : Int) (b : Int) = decide (a = b) := by
  show Nat.beq a b = _
  rw [Bool.eq_iff_iff]; simp
theorem leL33 (b : Nat) : leI 33 (b : Int) = decide (33 ≤ b) := leI_nat 33 b
theorem leL48 (b : Nat) : leI 48 (b : Int) = decide (48 ≤ b) := leI_nat 48 b
theorem leL97 (b : Nat) : leI 97 (b : Int) = decide (97 ≤ b) := leI_nat 97 b
theorem leR126 (b : Nat) : leI (b : Int) 126 = decide (b ≤ 126) := leI_nat b 126
theorem leR57 (b : Nat) : leI (b : Int) 57 = decide (b ≤ 57) := leI_nat b 57
theorem leR102 (b : Nat) : leI (b : Int) 102 = decide (b ≤ 102) := leI_nat b 102
theorem eqR37 (b : Nat) : eqI (b : Int) 37 = decide (b = 37) := eqI_nat b 37
theorem eqR61 (b : Nat) : eqI (b : Int) 61 = decide (b = 61) := eqI_nat b 61
theorem eqR0 (b : Nat) : eqI (b : Int) 0 = decide (b = 0) := eqI_nat b 0
theorem ltR33 (b : Nat) : ltI (b : Int) 33 = decide (b < 33) := ltI_nat b 33
theorem ltR300 (b : Nat) : ltI (b : Int) 300 = decide (b < 300) := ltI_nat b 300
theorem ltL126 (b : Nat) : ltI 126 (b : Int) = decide (126 < b) := ltI_nat 126 b
theorem ltL200 (b : Nat) : ltI 200 (b : Int) = decide (200 < b) := ltI_nat 200 b
theorem ltL4000 (b : Nat) : ltI 4000 (b : Int) = decide (4000 < b) := ltI_nat 4000 b
theorem ltL2000 (b : Nat) : ltI 2000 (b : Int) = decide (2000 < b) := ltI_nat 2000 b
theorem ltL0 (b : Nat) : ltI 0 (b : Int) = decide (0 < b) := ltI_nat 0 b
theorem ltR0 (b : Nat) : ltI (b : Int) 0 = false := by rw [show (0 : Int) = ((0 : Nat) : Int) from rfl, ltI_nat]; simp
theorem leL0 (b : Nat) : leI 0 (b : Int) = true := by rw [show (0 : Int) = ((0 : Nat) : Int) from rfl, leI_nat]; simp

/-- the counter goes on -/
theorem wrap_up {a b : Nat} (h : a + b < 9223372036854775808) : IntKind.i64.wrap ((a : Int) + (b : Int)) = ((a + b : Nat) : Int) := by
  rw [wrap_i64 (by omega) (by omega)]; omega
theorem wrap_one {a : Nat} (h : a + 1 < 9223372036854775808) : IntKind.i64.wrap ((a : Int) + 1) = ((a + 1 : Nat) : Int) := wrap_up (b := 1) h
theorem wrap_two {a : Nat} (h : a + 2 < 9223372036854775808) : IntKind.i64.wrap ((a : Int) + 2) = ((a + 2 : Nat) : Int) := wrap_up (b := 2) h

theorem at_pre {pre rest : Bs} {x : UInt8} : (pre ++ x :: rest)[pre.length]? = some x := by
  rw [List.getElem?_append_right (Nat.le_refl _), Nat.sub_self]; rfl
theorem at_pre1 {pre rest : Bs} {x y : UInt8} : (pre ++ x :: y :: rest)[pre.length + 1]? = some y := by
  rw [List.getElem?_append_right (by omega), show pre.length + 1 - pre.length = 1 by omega]; rfl
theorem at_pre2 {pre rest : Bs} {x y z : UInt8} : (pre ++ x :: y :: z :: rest)[pre.length + 2]? = some z := by
  rw [List.getElem?_append_right (by omega), show pre.length + 2 - pre.length = 2 by omega]; rfl
theorem cut_one {pre rest : Bs} {x : UInt8} : List.drop pre.length (List.take (pre.length + 1) (pre ++ x :: rest)) = [x] := by
  rw [List.take_append, List.take_of_length_le (by omega), show pre.length + 1 - pre.length = 1 by omega, List.drop_append, List.drop_of_length_le (Nat.le_refl _), Nat.sub_self]
  simp

/-- a byte's digits -/
theorem nib_all : ∀ n : Fin 256, ((n.val : Int)).fdiv 16 = ((n.val / 16 : Nat) : Int) ∧ IntKind.u8.wrap (((n.val / 16 : Nat) : Int) + 1) = ((n.val / 16 + 1 : Nat) : Int) ∧
    IntKind.u8.wrap ((BitVec.ofInt 8 (n.val : Int) &&& BitVec.ofInt 8 15).toNat : Int) = ((n.val % 16 : Nat) : Int) ∧ IntKind.u8.wrap (((n.val % 16 : Nat) : Int) + 1) = ((n.val % 16 + 1 : Nat) : Int) ∧
    IntKind.u8.wrap (((n.val : Int)).tdiv 16) = ((n.val / 16 : Nat) : Int) ∧ ((n.val : Int)).tmod 16 = ((n.val % 16 : Nat) : Int) := by decide +kernel

theorem nib (x : UInt8) : ((x.toNat : Int)).fdiv 16 = ((x.toNat / 16 : Nat) : Int) ∧ IntKind.u8.wrap (((x.toNat / 16 : Nat) : Int) + 1) = ((x.toNat / 16 + 1 : Nat) : Int) ∧
    IntKind.u8.wrap ((BitVec.ofInt 8 (x.toNat : Int) &&& BitVec.ofInt 8 15).toNat : Int) = ((x.toNat % 16 : Nat) : Int) ∧ IntKind.u8.wrap (((x.toNat % 16 : Nat) : Int) + 1) = ((x.toNat % 16 + 1 : Nat) : Int) ∧
    IntKind.u8.wrap (((x.toNat : Int)).tdiv 16) = ((x.toNat / 16 : Nat) : Int) ∧ ((x.toNat : Int)).tmod 16 = ((x.toNat % 16 : Nat) : Int) := nib_all ⟨x.toNat, x.toNat_lt⟩

/-- two digits put together -/
theorem join_all : ∀ a b : Fin 16, IntKind.u8.wrap (IntKind.i64.wrap ((BitVec.ofInt 64 (IntKind.i64.wrap ((a.val : Int) * 16)) ||| BitVec.ofInt 64 (b.val : Int)).toNat : Int)) = ((UInt8.ofNat (16 * a.val + b.val)).toNat : Int) ∧
    IntKind.i64.wrap (16 * (a.val : Int)) = ((16 * a.val : Nat) : Int) ∧ IntKind.i64.wrap (((16 * a.val : Nat) : Int) + (b.val : Int)) = ((16 * a.val + b.val : Nat) : Int) ∧ IntKind.u8.wrap ((16 * a.val + b.val : Nat) : Int) = ((UInt8.ofNat (16 * a.val + b.val)).toNat : Int) := by decide +kernel

theorem hexLit : ([{ toBitVec := 48#8 : UInt8 }, { toBitVec := 49#8 : UInt8 }, { toBitVec := 50#8 : UInt8 }, { toBitVec := 51#8 : UInt8 }, { toBitVec := 52#8 : UInt8 }, { toBitVec := 53#8 : UInt8 }, { toBitVec := 54#8 : UInt8 }, { toBitVec := 55#8 : UInt8 }, { toBitVec := 56#8 : UInt8 }, { toBitVec := 57#8 : UInt8 }, { toBitVec := 97#8 : UInt8 }, { toBitVec := 98#8 : UInt8 }, { toBitVec := 99#8 : UInt8 }, { toBitVec := 100#8 : UInt8 }, { toBitVec := 101#8 : UInt8 }, { toBitVec := 102#8 : UInt8 }] : List UInt8) = hexL := rfl
theorem l37 : ({ toBitVec := 37#8 } : UInt8) = 37 := rfl
theorem l45 : ({ toBitVec := 45#8 } : UInt8) = 45 := rfl
theorem l61 : ({ toBitVec := 61#8 } : UInt8) = 61 := rfl
theorem l10 : ({ toBitVec := 10#8 } : UInt8) = 10 := rfl
theorem l50 : ({ toBitVec := 50#8 } : UInt8) = 50 := rfl
theorem l100 : ({ toBitVec := 100#8 } : UInt8) = 100 := rfl

theorem beqA_str (s : List UInt8) : beqA 9 (.str s) (.str s) = true := by simp [beqA]
theorem addOk_ok {a b : Bs} (h : a.length + b.length ≤ 9223372036854775807) : addOk a b = true := by
  unfold addOk
  rw [Nat.ble_eq]; exact h

theorem i64max : IntKind.i64.max = 9223372036854775807 := rfl
theorem short_ok {n : Nat} (h : n ≤ 9223372036854775807) : decide (((n : Nat) : Int) ≤ IntKind.i64.max) = true := by
  rw [i64max, decide_eq_true_eq]; omega

theorem encL_append : ∀ a b : Bs, encL (a ++ b) = encL a ++ encL b
  | [], b => rfl
  | x :: a, b => by
    show encB x ++ encL (a ++ b) = encB x ++ encL a ++ encL b
    rw [encL_append a b, List.append_assoc]
theorem encL_one (x : UInt8) : encL [x] = encB x := by show encB x ++ [] = _; rw [List.append_nil]
end Go.Words
