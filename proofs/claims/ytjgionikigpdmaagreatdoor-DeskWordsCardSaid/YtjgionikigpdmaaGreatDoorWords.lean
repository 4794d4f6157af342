/-
  Words and dumps, as plain functions on bytes: each text has a word, that is read as it; a dump is read as what was dumped, and what is read as a dump is the dump of what was read.
-/
namespace Go.Words

abbrev Bs := List UInt8

def plainB (c : UInt8) : Bool := decide (33 ≤ c.toNat) && decide (c.toNat ≤ 126) && !(c.toNat == 37) && !(c.toNat == 61)

def hexL : Bs := [48, 49, 50, 51, 52, 53, 54, 55, 56, 57, 97, 98, 99, 100, 101, 102]

def hexD (n : Nat) : UInt8 := hexL.getD n 0

def encB (c : UInt8) : Bs := if plainB c then [c] else [37, hexD (c.toNat / 16), hexD (c.toNat % 16)]

def encL : Bs → Bs
  | [] => []
  | c :: s => encB c ++ encL s

def wordT (s : Bs) : Bs := if s = [] then [45] else if s = [45] then [37, 50, 100] else encL s

def hexV (c : UInt8) : Option Nat :=
  if 48 ≤ c.toNat ∧ c.toNat ≤ 57 then some (c.toNat - 48) else if 97 ≤ c.toNat ∧ c.toNat ≤ 102 then some (c.toNat - 87) else none

/-- a word's bytes, read (fuel: as many rounds as bytes) -/
def decF : Nat → Bs → Option Bs
  | 0, _ => some []
  | _ + 1, [] => some []
  | n + 1, c :: r =>
    if c = 37 then
      match r with
      | a :: b :: r' =>
        match hexV a, hexV b with
        | some x, some y => (decF n r').map (UInt8.ofNat (16 * x + y) :: ·)
        | _, _ => none
      | _ => none
    else (decF n r).map (c :: ·)

def decL (w : Bs) : Option Bs := decF w.length w

theorem decF_more : ∀ (n m : Nat) (w : Bs), w.length ≤ n → n ≤ m → decF m w = decF n w := by
  intro n
  induction n with
  | zero =>
    intro m w h _
    have : w = [] := List.eq_nil_of_length_eq_zero (by omega)
    subst this
    cases m <;> rfl
  | succ n ih =>
    intro m w h hm
    obtain ⟨m, rfl⟩ : ∃ k, m = k + 1 := ⟨m - 1, by omega⟩
    match w with
    | [] => rfl
    | c :: r =>
      unfold decF
      simp only [List.length_cons] at h
      rw [ih m r (by omega) (by omega)]
      match r with
      | [] => rfl
      | [a] => rfl
      | a :: b :: r' =>
        simp only [List.length_cons] at h
        simp only [ih m r' (by omega) (by omega)]

theorem decL_nil : decL [] = some [] := rfl
theorem decL_byte {c : UInt8} (h : c ≠ 37) (r : Bs) : decL (c :: r) = (decL r).map (c :: ·) := by
  unfold decL
  rw [List.length_cons]
  exact if_neg h
theorem decL_hex (a b : UInt8) (r : Bs) : decL (37 :: a :: b :: r) = match hexV a, hexV b with
    | some x, some y => (decL r).map (UInt8.ofNat (16 * x + y) :: ·)
    | _, _ => none := by
  unfold decL
  simp only [List.length_cons]
  rw [show decF (r.length + 1 + 1 + 1) (37 :: a :: b :: r) = (match hexV a, hexV b with
    | some x, some y => (decF (r.length + 1 + 1) r).map (UInt8.ofNat (16 * x + y) :: ·)
    | _, _ => none) by rfl, decF_more r.length (r.length + 1 + 1) r (Nat.le_refl _) (by omega)]
theorem decL_short1 : decL [37] = none := rfl
theorem decL_short2 (a : UInt8) : decL [37, a] = none := rfl

def readW (w : Bs) : Option Bs :=
  if w = [45] then some [] else
  match decL w with
  | none => none
  | some s => if wordT s = w then some s else none

/-! ### each text has a word -/
theorem hexV_hexD : ∀ n : Fin 16, hexV (hexD n) = some n.val := by decide
theorem hexD_ne : ∀ n : Fin 16, hexD n ≠ 10 ∧ hexD n ≠ 61 := by decide

theorem decL_enc (c : UInt8) (r : Bs) : decL (encB c ++ r) = (decL r).map (c :: ·) := by
  unfold encB
  split
  · rename_i h
    have hc : c ≠ 37 := by
      intro e
      subst e
      exact absurd h (by decide)
    exact decL_byte hc r
  · have hb := c.toNat_lt
    have h1 := hexV_hexD ⟨c.toNat / 16, by omega⟩
    have h2 := hexV_hexD ⟨c.toNat % 16, by omega⟩
    show decL (37 :: hexD (c.toNat / 16) :: hexD (c.toNat % 16) :: r) = _
    rw [decL_hex, h1, h2]
    simp only
    rw [show 16 * (c.toNat / 16) + c.toNat % 16 = c.toNat by omega]
    simp

theorem decL_encL : ∀ s : Bs, decL (encL s) = some s
  | [] => rfl
  | c :: s => by
    show decL (encB c ++ encL s) = _
    rw [decL_enc, decL_encL s]; rfl

theorem encB_pos (c : UInt8) : 1 ≤ (encB c).length ∧ (encB c).length ≤ 3 := by
  unfold encB
  split <;> simp

theorem encL_len : ∀ s : Bs, s.length ≤ (encL s).length ∧ (encL s).length ≤ 3 * s.length
  | [] => by simp [encL]
  | c :: s => by
    have h1 := encB_pos c
    have h2 := encL_len s
    simp only [encL, List.length_append, List.length_cons]
    omega

theorem wordT_len (s : Bs) : (wordT s).length ≤ 3 * s.length + 1 := by
  unfold wordT
  split
  · simp
  · split
    · rename_i h; rw [h]; simp
    · have := encL_len s; omega

theorem readW_wordT (s : Bs) : readW (wordT s) = some s := by
  by_cases h0 : s = []
  · subst h0; rfl
  · by_cases h1 : s = [45]
    · subst h1; decide
    · have hw : wordT s = encL s := by unfold wordT; rw [if_neg h0, if_neg h1]
      unfold readW
      rw [if_neg ?_]
      · rw [hw, decL_encL]
        simp only
        rw [hw, if_pos rfl]
      · rw [hw]
        intro e
        have := decL_encL s
        rw [e] at this
        exact h1 (Option.some.inj this).symm

theorem wordT_readW {w s : Bs} (h : readW w = some s) : wordT s = w := by
  unfold readW at h
  split at h
  · rename_i e; cases h; rw [e]; rfl
  · split at h
    · cases h
    · split at h
      · rename_i e; cases h; exact e
      · cases h

theorem encB_ne {c b : UInt8} (h : b ∈ encB c) : b ≠ 10 ∧ b ≠ 61 := by
  unfold encB at h
  split at h
  · rename_i hp
    have := List.mem_singleton.1 h
    subst this
    constructor <;> intro e <;> subst e <;> exact absurd hp (by decide)
  · have hb := c.toNat_lt
    rcases List.mem_cons.1 h with rfl | h
    · decide
    · rcases List.mem_cons.1 h with rfl | h
      · exact hexD_ne ⟨c.toNat / 16, by omega⟩
      · have := List.mem_singleton.1 h
        subst this
        exact hexD_ne ⟨c.toNat % 16, by omega⟩

theorem encL_ne : ∀ {s : Bs} {b : UInt8}, b ∈ encL s → b ≠ 10 ∧ b ≠ 61
  | [], b, h => by simp [encL] at h
  | c :: s, b, h => by
    rcases List.mem_append.1 h with h | h
    · exact encB_ne h
    · exact encL_ne h

theorem wordT_ne {s : Bs} {b : UInt8} (h : b ∈ wordT s) : b ≠ 10 ∧ b ≠ 61 := by
  unfold wordT at h
  split at h
  · have := List.mem_singleton.1 h; subst this; decide
  · split at h
    · simp only [List.mem_cons, List.not_mem_nil, or_false] at h
      rcases h with rfl | rfl | rfl <;> decide
    · exact encL_ne h

/-! ### lines and dumps -/
/-- ahead of the first byte 'c', behind it, and whether there is one -/
def cutB (c : UInt8) : Bs → Bs × Bs × Bool
  | [] => ([], [], false)
  | b :: r => if b = c then ([], r, true) else (b :: (cutB c r).1, (cutB c r).2.1, (cutB c r).2.2)

theorem cutB_len (c : UInt8) : ∀ s : Bs, (cutB c s).1.length + (cutB c s).2.1.length ≤ s.length ∧ (s ≠ [] → (cutB c s).2.1.length < s.length)
  | [] => by simp [cutB]
  | b :: r => by
    have := cutB_len c r
    unfold cutB
    split
    · simp
    · simp only [List.length_cons]
      refine ⟨by omega, fun _ => by omega⟩

theorem cutB_at {c : UInt8} : ∀ {a : Bs} (r : Bs), (∀ b ∈ a, b ≠ c) → cutB c (a ++ c :: r) = (a, r, true)
  | [], r, _ => by simp [cutB]
  | b :: a, r, h => by
    show cutB c (b :: (a ++ c :: r)) = _
    unfold cutB
    rw [if_neg (h b (List.mem_cons_self ..)), cutB_at r fun x hx => h x (List.mem_cons_of_mem _ hx)]

theorem cutB_join {c : UInt8} : ∀ {s a r : Bs}, cutB c s = (a, r, true) → s = a ++ c :: r
  | [], a, r, h => by simp [cutB] at h
  | b :: s, a, r, h => by
    unfold cutB at h
    split at h
    · rename_i e
      cases h
      rw [e]; rfl
    · simp only [Prod.mk.injEq] at h
      obtain ⟨rfl, rfl, h3⟩ := h
      have := cutB_join (c := c) (s := s) (a := (cutB c s).1) (r := (cutB c s).2.1) (by rw [← h3])
      rw [List.cons_append, ← this]

def pairP (line : Bs) : Option (Bs × Bs) :=
  match (cutB 61 line).2.2, readW (cutB 61 line).1, readW (cutB 61 line).2.1 with
  | true, some k, some v => some (k, v)
  | _, _, _ => none

def lineT (p : Bs × Bs) : Bs := wordT p.1 ++ 61 :: (wordT p.2 ++ [10])

def dumpT : List (Bs × Bs) → Bs
  | [] => []
  | p :: l => lineT p ++ dumpT l

/-- the pairs of a dump, and 0, or the number of the first line that is none -/
def readF : Nat → Bs → Nat → List (Bs × Bs) × Nat
  | 0, _, _ => ([], 0)
  | _ + 1, [], _ => ([], 0)
  | f + 1, b :: r, n =>
    match (cutB 10 (b :: r)).2.2, pairP (cutB 10 (b :: r)).1 with
    | true, some p => match readF f (cutB 10 (b :: r)).2.1 (n + 1) with
      | (l, 0) => (p :: l, 0)
      | (_, k + 1) => ([], k + 1)
    | _, _ => ([], n)

def readD (s : Bs) (n : Nat) : List (Bs × Bs) × Nat := readF s.length s n

theorem readF_more : ∀ (f g : Nat) (s : Bs) (n : Nat), s.length ≤ f → f ≤ g → readF g s n = readF f s n := by
  intro f
  induction f with
  | zero =>
    intro g s n h _
    have : s = [] := List.eq_nil_of_length_eq_zero (by omega)
    subst this
    cases g <;> rfl
  | succ f ih =>
    intro g s n h hg
    obtain ⟨g, rfl⟩ : ∃ k, g = k + 1 := ⟨g - 1, by omega⟩
    match s with
    | [] => rfl
    | b :: r =>
      have := (cutB_len 10 (b :: r)).2 (by simp)
      unfold readF
      rw [ih g _ (n + 1) (by omega) (by omega)]

theorem readD_nil (n : Nat) : readD [] n = ([], 0) := rfl
theorem readD_cons {s : Bs} (h : s ≠ []) (n : Nat) : readD s n = match (cutB 10 s).2.2, pairP (cutB 10 s).1 with
    | true, some p => match readD (cutB 10 s).2.1 (n + 1) with
      | (l, 0) => (p :: l, 0)
      | (_, k + 1) => ([], k + 1)
    | _, _ => ([], n) := by
  match s with
  | [] => exact absurd rfl h
  | b :: r =>
    have := (cutB_len 10 (b :: r)).2 (by simp)
    unfold readD
    rw [← readF_more (cutB 10 (b :: r)).2.1.length r.length _ (n + 1) (Nat.le_refl _) (by simp at this; omega)]
    rfl

theorem pairP_line (p : Bs × Bs) : pairP (wordT p.1 ++ 61 :: wordT p.2) = some p := by
  unfold pairP
  rw [cutB_at _ fun b hb => (wordT_ne hb).2, readW_wordT, readW_wordT]

theorem lineT_cut (p : Bs × Bs) (r : Bs) : cutB 10 (lineT p ++ r) = (wordT p.1 ++ 61 :: wordT p.2, r, true) := by
  have e : lineT p ++ r = (wordT p.1 ++ 61 :: wordT p.2) ++ 10 :: r := by unfold lineT; simp
  rw [e]
  refine cutB_at r fun b hb => ?_
  rcases List.mem_append.1 hb with hb | hb
  · exact (wordT_ne hb).1
  · rcases List.mem_cons.1 hb with rfl | hb
    · decide
    · exact (wordT_ne hb).1

theorem lineT_ne (p : Bs × Bs) (r : Bs) : lineT p ++ r ≠ [] := by unfold lineT; simp

theorem readD_dumpT : ∀ (l : List (Bs × Bs)) (n : Nat), readD (dumpT l) n = (l, 0)
  | [], n => rfl
  | p :: l, n => by
    show readD (lineT p ++ dumpT l) n = _
    rw [readD_cons (lineT_ne p _), lineT_cut, pairP_line]
    simp only
    rw [readD_dumpT l (n + 1)]

theorem pairP_join {line : Bs} {p : Bs × Bs} (h : pairP line = some p) : wordT p.1 ++ 61 :: wordT p.2 = line := by
  unfold pairP at h
  split at h
  · rename_i k v h1 h2 h3
    cases h
    have := cutB_join (c := 61) (s := line) (a := (cutB 61 line).1) (r := (cutB 61 line).2.1) (by rw [← h1])
    rw [wordT_readW h2, wordT_readW h3, ← this]
  · cases h

theorem dumpT_readD : ∀ (k : Nat) (s : Bs) (n : Nat) (l : List (Bs × Bs)), s.length ≤ k → readD s (n + 1) = (l, 0) → dumpT l = s := by
  intro k
  induction k with
  | zero =>
    intro s n l h hr
    have : s = [] := List.eq_nil_of_length_eq_zero (by omega)
    subst this
    rw [readD_nil] at hr
    cases hr; rfl
  | succ k ih =>
    intro s n l h hr
    by_cases hs : s = []
    · subst hs; rw [readD_nil] at hr; cases hr; rfl
    · rw [readD_cons hs] at hr
      have hl := (cutB_len 10 s).2 hs
      split at hr
      · rename_i p h1 h2
        split at hr
        · rename_i l' h3
          cases hr
          have e1 := ih _ _ _ (by omega) h3
          have e2 := pairP_join h2
          have e3 := cutB_join (c := 10) (s := s) (a := (cutB 10 s).1) (r := (cutB 10 s).2.1) (by rw [← h1])
          have e4 : lineT p ++ (cutB 10 s).2.1 = (cutB 10 s).1 ++ 10 :: (cutB 10 s).2.1 := by
            rw [← e2]; unfold lineT; simp
          show lineT p ++ dumpT l' = s
          rw [e1]
          exact e4.trans e3.symm
        · cases hr
      · cases hr

end Go.Words
