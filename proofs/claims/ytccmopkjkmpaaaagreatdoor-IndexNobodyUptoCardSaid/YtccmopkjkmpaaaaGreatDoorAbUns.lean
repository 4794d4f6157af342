/-
  Bytes that become a string where they lie (unsafe.String), and bytes of which nothing is known (bytealg.MakeNoZero), under the simulation.
-/
import Derived.Test.YtccmopkjkmpaaaaGreatDoorAbOpsH
import Derived.Lib.UnsafeStr
import Derived.Lib.MakeNoZero
namespace Go.Ab
set_option linter.unusedSimpArgs false
set_option linter.unusedVariables false

section
variable {P : Program} {ρ : Loc} {M : AMem} {w : World}

/-- a block that no number holds may change -/
theorem Sim.off {w' : World} (s : Sim ρ M w) {b0 : Nat} (hf : ∀ β k, ρ β = some k → k.b = b0 → M.get β = none) (hsz : w'.heap.size = w.heap.size) (hk : ∀ b, b ≠ b0 → w'.heap[b]? = w.heap[b]?) : Sim ρ M w' :=
  ⟨s.dom, fun α l e => by rw [hsz]; exact s.inb α l e, fun α l B h1 h2 => (s.blk α l B h1 h2).mono (Loc.le_refl ρ) (hk _ fun e => by rw [hf α l h1 e] at h2; cases h2), s.sep, s.wf⟩

/-- a row is given up, and what lies in its block changes -/
theorem Sim.killOff {w' : World} (s : Sim ρ M w) {α : Nat} {l : Pl} (hl : ρ α = some l) (ho : M.own α = true) (hsz : w'.heap.size = w.heap.size) (hk : ∀ b, b ≠ l.b → w'.heap[b]? = w.heap[b]?)
    (hos : w'.os = w.os) (ht : w'.tape = w.tape) (hou : w'.output = w.output) : Sim ρ (M.kill α) w' ∧ Ext ρ M w ρ (M.kill α) w' := by
  refine ⟨(s.kill α).off (b0 := l.b) (fun β k h e => ?_) hsz hk, ?_⟩
  · rw [AMem.get_kill]
    split
    · rfl
    · rename_i hne
      exact s.sep α β l k (Ne.symm hne) hl h e.symm ho
  · have h0 := Ext.kill (ρ := ρ) (M := M) (w := w) α
    refine ⟨h0.sub, h0.next, by omega, hos, ht, hou, h0.muts, fun β k h1 h2 => (by rw [h1] at h2; cases h2), fun b _ hm => hk b fun e => ?_⟩
    have := hm α l hl e.symm
    rw [ho] at this; cases this

/-- so many bytes lie side by side -/
theorem liesAt_row {e : TypeId} (hc : P.cellsOf e = 1) (count off n : Nat) (hn : off + n ≤ count) : liesAt P P.depth e count off e n = true := by
  have hd : P.depth = (2 * (P.types.size + Made.depth) + 1) + 1 := rfl
  rw [hd]
  simp only [liesAt, Bool.or_eq_true]
  left
  rw [hd]
  simp [rowAt, hc, hn, sameLayout, Nat.mod_one]

theorem run_loadBytes_at : ∀ (ns : List Int) (a : Addr) (acc : ByteArray), (∀ j x, ns[j]? = some x → w.cell? (a.add j) = some (.int .u8 x)) →
    (loadBytes a acc ns.length).run P w = .ok ⟨acc.data ++ (ns.map fun n => UInt8.ofNat n.toNat).toArray⟩ w
  | [], a, acc, _ => by simp [loadBytes]
  | x :: ns, a, acc, h => by
    have h0 : w.cell? a = some (.int .u8 x) := by
      have := h 0 x rfl
      simpa [Addr.add] using this
    have ih := run_loadBytes_at ns (a.add 1) (acc.push (UInt8.ofNat x.toNat)) (fun j y hy => by
      have := h (j + 1) y (by simpa using hy)
      have e : (a.add 1).add j = a.add (j + 1) := by
        unfold Addr.add
        by_cases hj : j = 0
        · subst hj; simp
        · simp [hj]; omega
      rw [e]; exact this)
    simp only [List.length_cons, loadBytes, Sem.run_bind, run_load, h0, Result.andThen, Nat.toUInt8_eq]
    rw [ih]
    congr 1
    apply ByteArray.ext
    simp [ByteArray.push]

theorem run_unsafeString_at (ts : Array TypeId) (pt ty e : TypeId) (hts : ts[0]? = some pt) (k : IntKind) (hp : P.underlying pt = some (.pointer e)) (hc : P.cellsOf e = 1) (g o cells : Nat) (hsh : w.shape? g = some (e, cells)) (ns : List Int) (h0 : ns.length ≠ 0) (hn : o + ns.length ≤ cells) (h63 : ns.length ≤ 9223372036854775807)
    (hcell : ∀ j x, ns[j]? = some x → w.cell? ((⟨g, o, none⟩ : Addr).add j) = some (.int .u8 x)) :
    (Builtin.unsafeString_ ts ty #[.pointer (some ⟨g, o, none⟩), .int k ns.length]).run P w = .ok (.string ⟨(ns.map fun n => UInt8.ofNat n.toNat).toArray⟩) (w.freeze ⟨g, o, none⟩ ns.length) := by
  have hlb := run_loadBytes_at (P := P) (w := w) ns ⟨g, o, none⟩ .empty hcell
  have hlies := liesAt_row (P := P) hc (cells / P.cellsOf e) o ns.length (by rw [hc]; simpa using hn)
  have h63' : ¬ (9223372036854775807 : Int) < (ns.length : Int) := by omega
  have hneg : ¬ (ns.length : Int) < 0 := by omega
  have hmax : IntKind.i64.max = 9223372036854775807 := rfl
  have hz : ns ≠ [] := fun e => h0 (by rw [e]; rfl)
  change (Bind.bind (_root_.Go.asInt (Value.int k (ns.length : Int))) _).run P w = _
  simp [_root_.Go.asInt, asIntOf, hts, hmax, h63', hneg, hz, variablesAt, hsh, elemOf, run_underlying hp, hlies, hlb]

theorem run_unsafeString_zero (ts : Array TypeId) (pt ty : TypeId) (hts : ts[0]? = some pt) (k : IntKind) (p : Option Addr) : (Builtin.unsafeString_ ts ty #[.pointer p, .int k 0]).run P w = .ok (.string .empty) w := by
  have hmax : IntKind.i64.max = 9223372036854775807 := rfl
  change (Bind.bind (_root_.Go.asInt (Value.int k 0)) _).run P w = _
  cases p <;> simp [_root_.Go.asInt, asIntOf, hmax, hts]

theorem freeze_rest (w : World) (g o n : Nat) (h : n ≠ 0) : (w.freeze ⟨g, o, none⟩ n).heap.size = w.heap.size ∧ (∀ b, b ≠ g → (w.freeze ⟨g, o, none⟩ n).heap[b]? = w.heap[b]?) ∧ (w.freeze ⟨g, o, none⟩ n).os = w.os ∧ (w.freeze ⟨g, o, none⟩ n).tape = w.tape ∧ (w.freeze ⟨g, o, none⟩ n).output = w.output := by
  simp only [World.freeze]
  rw [if_neg h]
  refine ⟨by simp, fun b hb => ?_, rfl, rfl, rfl⟩
  simp only [Array.getElem?_modify]
  rw [if_neg (Ne.symm hb)]

theorem unsafeString_sound (s : Sim ρ M w) {pt e t : TypeId} {α m n sz : Nat} {cl : Cl} {c cs : List AV} {bs : List UInt8} {l : Pl} (ty : TypeId) (ts : Array TypeId) (hts : ts[0]? = some pt) (k : IntKind) (hl : ρ α = some l) (hg : M.get α = some (.cells c sz cl)) (hcl' : cl.row = some (t, m))
    (hp : P.underlying pt = some (.pointer e)) (hcs : cellsFrom M (α, 0) (n + 1) = some cs) (hbs : bytesOf cs = some bs) (hte : t = e) (hc : P.cellsOf e = 1) (h63 : n + 1 ≤ 9223372036854775807) :
    ∃ w', (Builtin.unsafeString_ ts ty #[.pointer (some ⟨l.b, l.p + 0, none⟩), .int k (n + 1 : Nat)]).run P w = .ok (.string ⟨bs.toArray⟩) w' ∧ Sim ρ (M.set α (.cells c sz (.fz t (max m (n + 1))))) w' ∧ Ext ρ M w ρ (M.set α (.cells c sz (.fz t (max m (n + 1))))) w' := by
  generalize ho : (0 : Nat) = o at hcs ⊢
  have hown : M.own α = true := by unfold AMem.own; rw [hg]; rfl
  have hrow : M.row α = some c := by unfold AMem.row; rw [hg]
  cases s.blk α l _ hl hg with
  | cells _ _ _ _ C e' fz hC hv huf hcl hsz =>
    obtain ⟨he, hfz⟩ : e' = t ∧ (fz.1 = fz.2 ∨ (fz.1 = l.p ∧ fz.2 ≤ l.p + m)) := by
      cases cl with
      | yes => cases hcl'
      | no => cases hcl'
      | of u => cases hcl'; exact ⟨(hcl.2.1 _ rfl).1, .inl (hcl.1 rfl)⟩
      | fz u q => cases hcl'; exact hcl.2.2 _ _ rfl
    subst he
    subst hte
    have hlen := hv.len
    unfold cellsFrom at hcs
    rw [show M.row (α, o).1 = some c from hrow] at hcs
    simp only at hcs
    split at hcs
    case isFalse => cases hcs
    rename_i hle
    cases hcs
    obtain ⟨_, ys, hys, hyl, hyr⟩ := run_cellsFrom (P := P) (w := w) s hl (α := α) (o := o) (n := n + 1) (vs := (c.drop o).take (n + 1)) (by unfold cellsFrom; rw [show M.row (α, o).1 = some c from hrow]; simp only; rw [if_pos hle])
    have hle' : o + (n + 1) ≤ c.length := hle
    have hv1 : VL ρ ((c.drop o).take (n + 1)) ((C.drop (l.p + o)).take (n + 1)) := by
      have h1 := (hv.drop o).take (n + 1)
      have e1 : List.take (n + 1) (List.drop o (List.take c.length (List.drop l.p C))) = (C.drop (l.p + o)).take (n + 1) := by
        rw [List.drop_take, List.take_take, List.drop_drop, Nat.min_eq_left (by omega)]
      rw [e1] at h1
      exact h1
    obtain ⟨ns, en, rfl⟩ := bytesOf_sound hbs hv1
    have hnl : ns.length = n + 1 := by
      have := congrArg List.length en
      simp at this
      omega
    have hrun := run_unsafeString_at (P := P) (w := w) ts pt ty e' hts k hp hc l.b (l.p + o) C.length (by simp [World.shape?, hC]) ns (by omega) (by omega) (by omega) (fun j x hj => by
      rw [add_none, cell_of_list hC]
      have h1 : ((C.drop (l.p + o)).take (n + 1))[j]? = some (.int .u8 x) := by rw [en]; simp [hj]
      rw [List.getElem?_take] at h1
      split at h1
      · rwa [List.getElem?_drop] at h1
      · cases h1)
    rw [hnl] at hrun
    obtain ⟨f1, f2, f3, f4, f5⟩ := freeze_rest w l.b (l.p + o) (n + 1) (by omega)
    subst ho
    have hheap : ∃ fz' : Nat × Nat, (w.freeze ⟨l.b, l.p + 0, none⟩ (n + 1)).heap[l.b]? = some (.cells C.toArray e' fz') ∧ fz'.1 = l.p ∧ fz'.2 ≤ l.p + max m (n + 1) := by
      obtain ⟨lo, hi⟩ := fz
      simp only at hfz
      by_cases hq : lo = hi
      · subst hq
        refine ⟨(l.p, l.p + (n + 1)), ?_, rfl, by simp only; omega⟩
        simp only [World.freeze]
        rw [if_neg (by omega)]
        simp only [Array.getElem?_modify, if_true, hC, Option.map_some]
        simp
      · rcases hfz with hfz | ⟨h1, h2⟩
        · exact absurd hfz hq
        · refine ⟨(min lo l.p, max hi (l.p + (n + 1))), ?_, by simp only; omega, by simp only; omega⟩
          simp only [World.freeze]
          rw [if_neg (by omega)]
          simp only [Array.getElem?_modify, if_true, hC, Option.map_some]
          have : (lo == hi) = false := by simpa using hq
          simp [this]
    obtain ⟨fz', hh, z1, z2⟩ := hheap
    refine ⟨_, hrun, s.set hl hg rfl f1 f2 (.cells c sz _ l C e' fz' hh hv ?_ ⟨fun h => (by cases h), fun t h => (by cases h), fun t' n' h => ?_⟩ hsz), Ext.set hl hg rfl f1 f3 f4 f5 f2⟩
    · intro j h1 h2 h3
      have h1 : l.p + max m (n + 1) ≤ j := h1
      omega
    · cases h
      exact ⟨rfl, .inr ⟨z1, z2⟩⟩

/-! ### bytes of which nothing is known -/
theorem digits_ints : ∀ (n t : Nat) (acc : Array Value), (∀ v ∈ acc.toList, ∃ m : Int, v = .int .u8 m) → ∀ v ∈ (Extern.BytealgMakeNoZero.digits n t acc).toList, ∃ m : Int, v = .int .u8 m
  | 0, _, _, h => h
  | n + 1, t, acc, h => by
    rw [Extern.BytealgMakeNoZero.digits]
    refine digits_ints n (t / 256) _ fun v hv => ?_
    simp only [Array.toList_push, List.mem_append, List.mem_singleton] at hv
    rcases hv with hv | rfl
    · exact h v hv
    · exact ⟨_, rfl⟩

theorem mkNoZero_sound (s : Sim ρ M w) (ps : Array TypeId) {t e : TypeId} (ht : P.underlying t = some (.slice e)) {n : Nat} (hn : n + 1 ≤ 281474976710656) :
    ∃ ρ' w' u, (Extern.BytealgMakeNoZero.makeNoZero ps #[t] #[.int .i64 (n + 1 : Nat)]).run P w = .ok u w' ∧ VR ρ' (.slice (some (M.next, 0)) (n + 1) none) u ∧ Sim ρ' (M.new (.cells [] 1 (.of e))) w' ∧ Ext ρ M w ρ' (M.new (.cells [] 1 (.of e))) w' := by
  let cap := grownCap w (n + 1) 0 e
  let cs := Extern.BytealgMakeNoZero.digits cap ((Question.extern "internal/bytealg.MakeNoZero.bytes" 0).cut (w.tape (w.drawn + 1) (.extern "internal/bytealg.MakeNoZero.bytes" 0))) #[]
  have hcs : cs.size = cap := by simp [cs, Lib.size_digits]
  have hcap : n + 1 ≤ cap := by simpa using grownCap_ge w (n + 1) 0 e
  have hrun : (Extern.BytealgMakeNoZero.makeNoZero ps #[t] #[.int .i64 (n + 1 : Nat)]).run P w = .ok (.slice (some ⟨w.heap.size, 0, none⟩) (n + 1) cap) (w.drew.drew.alloc (.cells cs e)) := by
    have h1 : ¬ (n : Int) + 1 < 0 := by omega
    have h2 : ¬ (281474976710656 : Int) < (n : Int) + 1 := by omega
    change (Bind.bind (underlying t) _).run P w = _
    simp [run_underlying ht, h1, h2, Question.forced, newRow, Lib.size_digits, grownCap, cs, cap]
  let l : Pl := ⟨w.heap.size, 0, 1, cap⟩
  have s2 : Sim ρ M w.drew.drew := (s.drew _).drew _
  have hb : BlkR (ρ.upd M.next l) (w.drew.drew.alloc (.cells cs e)) (.cells [] 1 (.of e)) l := by
    have := BlkR.newCells (ρ := ρ.upd M.next l) (w := w.drew.drew) (xs := []) (C := cs.toList) 1 (.of e) e l (fun t h => by cases h; rfl) (fun t n h => by cases h) rfl rfl (by simpa using VL.nil _) (fun _ => ⟨rfl, by simp [l, hcs], by simp, fun j v _ _ hv => by
      obtain ⟨m, rfl⟩ := digits_ints _ _ #[] (by simp) v (List.mem_of_getElem? hv)
      exact ⟨.int .u8 m, fun _ => .int _ _⟩⟩)
    simpa using this
  obtain ⟨s3, e3⟩ := s2.alloc (B := .cells [] 1 (.of e)) (o := .cells cs e) (l := l) rfl hb
  refine ⟨_, _, _, hrun, ?_, s3, ((Ext.drew _).trans (Ext.drew _)).trans e3⟩
  exact .sl M.next 0 (n + 1) none l cap (Loc.upd_same ρ _ l) hcap (.inr ⟨rfl, .inr (by simp [l])⟩)
end
end Go.Ab
