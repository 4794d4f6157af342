/-
  slices.Sorted(maps.Keys(m)) at a map of one entry, told of the abstract memory: a hook of the evaluator.
-/
import Derived.Test.YtccmopkjkmpaaaaGreatDoorAbCut
import Derived.Test.YtccmopkjkmpaaaaGreatDoorSortedU
namespace Go.Proofs.YtccmopkjkmpaaaaGreatDoor
open Go Go.Ab Go.RowKit Go.Maps Go.Proofs
set_option linter.unusedVariables false
set_option linter.unusedSimpArgs false

/-- what the hook answers -/
def sortedH : List AV → AMem → Option (AV × AMem)
  | [.func (.func g) [] [.ptr (some p)]], M =>
    match Nat.beq g 212, M.row p.1 with
    | true, some cs =>
      match cs[p.2]? with
      | some (.map (some r)) =>
        match M.get r with
        | some (.map [(.int .u32 k, .int .i64 v, t)] clock) =>
          match decide (0 ≤ k) && decide (k < 4294967296) && decide (-9223372036854775808 ≤ v) && decide (v < 9223372036854775808) && Nat.blt t clock with
          | true => some (.slice (some (M.next, 0)) 1 none, M.new (.cells [.int .u32 k] 0 .yes))
          | false => none
        | _ => none
      | _ => none
    | _, _ => none
  | _, _ => none

/-- a number for a block that is new to the evaluator -/
theorem simAdd {ρ : Ab.Loc} {M : AMem} {w w' : World} (s : Sim ρ M w') (hin : ∀ α l, ρ α = some l → l.b < w.heap.size) {B : ABlk} {l : Pl} (hl : w.heap.size ≤ l.b) (hlt : l.b < w'.heap.size)
    (hb : BlkR (ρ.upd M.next l) w' B l) : Sim (ρ.upd M.next l) (M.new B) w' := by
  have hle := Ab.Loc.le_upd ρ M.next l s.none_next
  refine ⟨fun α k h => ?_, fun α k h => ?_, fun α k D h hd => ?_, fun α β k m hne h1 h2 h3 h4 => ?_, fun α hα => ?_⟩
  · by_cases e : α = M.next
    · rw [e, AMem.next_new]; omega
    · rw [Ab.Loc.upd_ne _ _ e] at h
      have := s.dom α k h
      rw [AMem.next_new]; omega
  · by_cases e : α = M.next
    · subst e; rw [Ab.Loc.upd_same] at h; cases h; exact hlt
    · rw [Ab.Loc.upd_ne _ _ e] at h; exact s.inb α k h
  · rw [AMem.get_new] at hd
    by_cases e : α = M.next
    · subst e
      rw [if_pos rfl] at hd; cases hd
      rw [Ab.Loc.upd_same] at h; cases h
      exact hb
    · rw [if_neg e] at hd
      rw [Ab.Loc.upd_ne _ _ e] at h
      exact BlkR.mono hle rfl (s.blk α k D h hd)
  · by_cases e : α = M.next
    · have e' : β ≠ M.next := fun q => hne (e.trans q.symm)
      rw [Ab.Loc.upd_ne _ _ e'] at h2
      rw [e, Ab.Loc.upd_same] at h1; cases h1
      have := hin β m h2
      omega
    · rw [Ab.Loc.upd_ne _ _ e] at h1
      by_cases e' : β = M.next
      · rw [e', Ab.Loc.upd_same] at h2; cases h2
        have := hin α k h1
        omega
      · rw [Ab.Loc.upd_ne _ _ e'] at h2
        have ho : M.own α = true := by
          unfold AMem.own at h4 ⊢
          rw [AMem.get_new, if_neg e] at h4
          exact h4
        rw [AMem.get_new, if_neg e']
        exact s.sep α β k m hne h1 h2 h3 ho
  · rw [AMem.next_new] at hα
    rw [AMem.get_new, if_neg (by omega)]
    exact s.wf α (by omega)

/-- slices.Sort of a row of one number: the number -/
theorem gN_le : gN Tryz.prog ≤ Tryz.prog.globals.size := by
  unfold gN
  split <;> omega

theorem sort_one (k : Int) : acall Tryz.prog noH 40 211 [.slice (some (20, 0)) 1 none] (memOf 21 [(20, .cells [.int .u32 k] 0 .yes)]) = some (.tup [], memOf 21 [(20, .cells [.int .u32 k] 0 .yes)]) := by kernel_rfl

theorem mixedS : Tryz.prog.follows .mixedOrders = true := by kernel_rfl

theorem sortOne_calls {w : World} {g cap : Nat} {cur : Array Value} {k : Int} (hg : w.heap[g]? = some (.cells cur 107 (0, 0))) (hcap : 1 ≤ cap) (hsz : cur.size = cap * 1) (ht : cur.toList.take 1 = [encU k]) {ρ : Ab.Loc} (hgl : GlobR Tryz.prog ρ) (h5 : Tryz.prog.globals.size ≤ 20)
    (hgb : ∀ α l, ρ α = some l → l.b ≠ g) (hin : ∀ α l, ρ α = some l → l.b < w.heap.size) :
    Calls Tryz.prog 211 #[.slice (some ⟨g, 0, none⟩) 1 cap] w (fun e w' => e = .returned (.tuple #[]) ∧ w.heap.size ≤ w'.heap.size ∧ w'.os = w.os ∧ w'.tape = w.tape ∧ w'.output = w.output ∧ (∀ b, b < w.heap.size → b ≠ g → w'.heap[b]? = w.heap[b]?) ∧
      ∃ (C : List Value) (e' : TypeId) (fz : Nat × Nat), w'.heap[g]? = some (.cells C.toArray e' fz) ∧ VL (fun _ => none) [.int .u32 k] (C.take 1) ∧ unfrozen fz 0 C.length ∧ fz.1 = fz.2) := by
  have hlt : g < w.heap.size := (Array.getElem?_eq_some_iff.1 hg).1
  let l : Pl := ⟨g, 0, 0, 0⟩
  let ρ2 : Ab.Loc := fun α => if α = 20 then some l else if α < Tryz.prog.globals.size then ρ α else none
  have h2 : ∀ α k', ρ2 α = some k' → (α = 20 ∧ k' = l) ∨ (α < Tryz.prog.globals.size ∧ ρ α = some k') := fun α k' e => by
    by_cases q : α = 20
    · left; simp only [ρ2, if_pos q] at e; cases e; exact ⟨q, rfl⟩
    · simp only [ρ2, if_neg q] at e
      by_cases q2 : α < Tryz.prog.globals.size
      · rw [if_pos q2] at e; exact .inr ⟨q2, e⟩
      · rw [if_neg q2] at e; cases e
  have h25 : ρ2 20 = some l := by simp only [ρ2, if_true]
  have hget : ∀ α B, (memOf 21 [(20, ABlk.cells [AV.int .u32 k] 0 .yes)]).get α = some B → α = 20 ∧ B = .cells [.int .u32 k] 0 .yes := fun α B e => by
    have := memOf_get e
    simp only [List.mem_singleton, Prod.mk.injEq] at this
    exact this
  have hcur : cur = cur.toList.toArray := by simp
  have hlen : cur.toList.length = cap := by simp [hsz]
  have s2 : Sim ρ2 (memOf 21 [(20, .cells [.int .u32 k] 0 .yes)]) w := by
    refine ⟨fun α k' e => ?_, fun α k' e => ?_, fun α k' B e hB => ?_, fun α β k' m hne e1 e2 hb ho => ?_, fun α hα => ?_⟩
    · show α < 21
      rcases h2 α k' e with ⟨q, _⟩ | ⟨q, _⟩ <;> omega
    · rcases h2 α k' e with ⟨_, rfl⟩ | ⟨_, q⟩
      · exact hlt
      · exact hin α k' q
    · obtain ⟨rfl, rfl⟩ := hget α B hB
      rw [h25] at e; cases e
      refine .cells _ 0 .yes l cur.toList 107 (0, 0) (by rw [← hcur]; exact hg) ?_ (fun j _ _ => by simp) ⟨fun _ => rfl, fun t h => (by cases h), fun t n h => (by cases h)⟩ (fun h => absurd rfl h)
      show VL ρ2 [.int .u32 k] ((cur.toList.drop 0).take 1)
      rw [List.drop_zero, ht]
      exact VL.cons (.int _ _) (VL.nil _)
    · cases e : (memOf 21 [(20, ABlk.cells [AV.int .u32 k] 0 .yes)]).get β with
      | none => rfl
      | some B =>
        obtain ⟨rfl, _⟩ := hget β B e
        unfold AMem.own at ho
        cases e' : (memOf 21 [(20, ABlk.cells [AV.int .u32 k] 0 .yes)]).get α with
        | none => rw [e'] at ho; cases ho
        | some B' => exact absurd (hget α B' e').1 hne
    · cases e : (memOf 21 [(20, ABlk.cells [AV.int .u32 k] 0 .yes)]).get α with
      | none => rfl
      | some B => obtain ⟨rfl, _⟩ := hget α B e; exact absurd hα (by show ¬ 21 ≤ 20; omega)
  have hg2 : GlobR Tryz.prog ρ2 := fun q hq => by
    have hq2 : q < Tryz.prog.globals.size := Nat.lt_of_lt_of_le hq gN_le
    have hne : q ≠ 20 := by omega
    simp only [ρ2, if_neg hne, if_pos hq2]
    exact hgl q hq
  have hv : VL ρ2 [.slice (some (20, 0)) 1 none] [.slice (some ⟨g, 0, none⟩) 1 cap] := by
    refine VL.cons ?_ (VL.nil _)
    have := VR.sl (ρ := ρ2) 20 0 1 none l cap h25 hcap (.inr ⟨rfl, .inl rfl⟩)
    simpa [l] using this
  refine (acall_sound mixedS noHook 40 211 _ _ _ _ (sort_one k) ρ2 w _ s2 hg2 hv).mono ?_
  rintro e w' ⟨ρ3, x, rfl, hx, s3, e3⟩
  obtain ⟨ys, rfl, hy⟩ := hx.tup_inv
  have hys : ys = [] := hy.list_nil
  subst hys
  refine ⟨rfl, e3.size, e3.os, e3.tape, e3.output, fun b hb hne => e3.keep b hb fun β k' hk hkb => ?_, ?_⟩
  · cases e : (memOf 21 [(20, ABlk.cells [AV.int .u32 k] 0 .yes)]).get β with
    | none => unfold AMem.own; rw [e]
    | some B =>
      obtain ⟨rfl, _⟩ := hget β B e
      rw [h25] at hk; cases hk
      exact absurd hkb.symm hne
  · have hB : (memOf 21 [(20, ABlk.cells [AV.int .u32 k] 0 .yes)]).get 20 = some (.cells [.int .u32 k] 0 .yes) := rfl
    cases s3.blk 20 l _ (e3.sub 20 l h25) hB with
    | cells _ _ _ _ C e' fz a1 a2 a3 a4 a5 =>
      refine ⟨C, e', fz, a1, ⟨by have := a2.1; simpa [l] using this, fun i x y hx hy => ?_⟩, a3, a4.1 rfl⟩
      · have h0 := a2.2 i x y hx (by simpa [l] using hy)
        cases i with
        | zero => simp at hx; subst hx; exact h0.closed rfl
        | succ i => simp at hx

theorem entersU (f : FuncId) (h : entersA Tryz.prog f = true) : ∀ args w, (callFunc f args).run Tryz.prog w = .ok (.enter f args) w := fun args w => run_callFunc h args

set_option maxHeartbeats 2000000 in
/-- the hook is sound -/
theorem sortedH_ok (h5 : Tryz.prog.globals.size ≤ 20) {args : List AV} {M M' : AMem} {v : AV} (h : sortedH args M = some (v, M')) {ρ : Ab.Loc} {w : World} {vs : List Value} (s : Sim ρ M w) (hg : GlobR Tryz.prog ρ) (hv : VL ρ args vs) :
    Calls Tryz.prog 161 vs.toArray w (fun e w' => ∃ ρ' x, e = .returned x ∧ VR ρ' v x ∧ Sim ρ' M' w' ∧ Ext ρ M w ρ' M' w') := by
  unfold sortedH at h
  split at h
  · rename_i g p
    obtain ⟨α, o⟩ := p
    split at h
    · rename_i cs hbeq hrow
      have hgk : g = 212 := Nat.eq_of_beq_eq_true hbeq
      subst hgk
      split at h
      · rename_i r hcell
        split at h
        · rename_i k vv t clock hget
          split at h
          · rename_i hb
            cases h
            simp only [Bool.and_eq_true, decide_eq_true_eq] at hb
            obtain ⟨⟨⟨⟨b1, b2⟩, b3⟩, b4⟩, b5⟩ := hb
            have b5 : t < clock := by simpa [Nat.blt_eq] using b5
            obtain ⟨y, yt, rfl, hy, hyt⟩ := hv.list_cons
            obtain rfl := hyt.list_nil
            obtain ⟨ys, ds, rfl, hys, hds⟩ := hy.func_inv
            obtain rfl := hys.list_nil
            obtain ⟨z, zt, rfl, hz, hzt⟩ := hds.list_cons
            obtain rfl := hzt.list_nil
            obtain ⟨l, hl, rfl⟩ := hz.ptr_inv
            obtain ⟨C, e0, fz0, hC, hCv⟩ := s.row hl hrow
            -- the map's box
            have hic : o < cs.length := (List.getElem?_eq_some_iff.1 hcell).1
            have hCc : ∃ c, ((C.drop l.p).take cs.length)[o]? = some c := ⟨_, List.getElem?_eq_getElem (by rw [← hCv.1]; exact hic)⟩
            obtain ⟨c, hc⟩ := hCc
            obtain ⟨lr, hlr, rfl⟩ := (hCv.2 o _ c hcell hc).map_inv
            have hm : w.cell? ⟨l.b, l.p + o, none⟩ = some (.map (some lr.b)) := by
              rw [cell_of_list hC]
              rw [List.getElem?_take, if_pos hic, List.getElem?_drop] at hc
              exact hc
            obtain ⟨ES, hE1, hE2, hE3⟩ := s.map_of hlr hget
            obtain ⟨E, rfl⟩ : ∃ E, ES = [E] := by
              match ES, hE2 with
              | [E], _ => exact ⟨E, rfl⟩
            obtain ⟨hk1, hk2, hk3⟩ := hE3 0 _ E rfl rfl
            have hk1 := hk1.int_inv
            have hk2 := hk2.int_inv
            have hk3 : t = E.born := hk3
            have wk : (Lit.int .u32 k).wf = true := by
              have m1 : IntKind.u32.min = 0 := rfl
              have m2 : IntKind.u32.max = 4294967295 := rfl
              simp only [Lit.wf, m1, m2, Bool.and_eq_true, decide_eq_true_eq]
              omega
            have wv : (Lit.int .i64 vv).wf = true := by
              have m1 : IntKind.i64.min = -9223372036854775808 := rfl
              have m2 : IntKind.i64.max = 9223372036854775807 := rfl
              simp only [Lit.wf, m1, m2, Bool.and_eq_true, decide_eq_true_eq]
              omega
            have hrd : Go.WideElems.rd (H := Unit) Tryz.prog 107 (plainElem Tryz.prog 3) E = some (.int .u32 k, .lit (.int .i64 vv)) := by
              unfold Go.WideElems.rd
              rw [hk1, hk2, Maps.keyOf_int_mk Tryz.underlying107 wk, plainElem_int Tryz.underlying3 wv]
              rfl
            let D0 : DataW Unit := .map [(.int .u32 k, .lit (.int .i64 vv))]
            have hown : w.ownsMap Tryz.prog 107 (plainElem Tryz.prog 3) lr.b 1 D0 := by
              refine ⟨#[E], clock, hE1, ⟨by show 1 ≤ maxLen; decide, ⟨?_, by simp, by simp⟩, fun x hx => ?_⟩, Nat.le_refl _, ?_⟩
              · intro x hx
                simp at hx; subst hx
                rw [← hk3]; exact b5
              · simp at hx; subst hx
                exact ⟨_, hrd⟩
              · simp only [Go.WideElems.rg, hrd, List.map_cons, List.map_nil, List.foldr_cons, List.foldr_nil, Option.getD_some, DataW.insert, D0]
            have hlb := s.inb α l hl
            have hseq : Go.SeqGives Fence.wide 9 Tryz.prog 212 #[.pointer (some ⟨l.b, l.p + o, none⟩)] encU (fun ss => ss.Nodup ∧ ∀ x, x ∈ ss ↔ has D0 (.int .u32 x) = true) (Maps.size D0) w :=
              keysU_gives Fence.wide 9 trivial rfl (by omega) ⟨l.b, l.p + o, none⟩ lr.b 1 D0 w hlb hm hown
            have hcol := collectU_in Fence.wide 11 trivial trivial rfl (by omega) 212 #[.pointer (some ⟨l.b, l.p + o, none⟩)] trivial (entersU 212 (by kernel_rfl)) _ (Maps.size D0) (by show 1 ≤ maxLen; decide) (by show 1 * 4 ≤ _; decide) w hseq
            refine (callsIn_wide (n := 12)).1 ?_
            refine callsIn_of_wp Tryz.func161 rfl trivial ?_ rfl
            simp only [Tryz.ntmps161, List.size_toArray, List.length_cons, List.length_nil, Nat.reduceAdd, Nat.reduceSub, Array.replicate_succ, Array.replicate_zero, List.push_toArray, List.append_toArray, List.nil_append, List.cons_append]
            gi_wp2_with (refine ⟨trivial, ?_⟩; gi_at_call 210; refine hcol.mono ?_; rintro e w1 ⟨v1, ss, rfl, ⟨hnd, hmem⟩, hrow1, hnil, hb1⟩)
            have hx : ∀ x, x ∈ ss ↔ x = k := fun x => by
              rw [hmem]
              show (((Lit.int .u32 k).sameKey (.int .u32 x)) || false) = true ↔ _
              simp [Lit.sameKey, eq_comm]
            have hss : ss = [k] := by
              match ss, hnd, hx with
              | [], _, hx => exact absurd ((hx k).2 rfl) (by simp)
              | [a], _, hx => rw [(hx a).1 (by simp)]
              | a :: a2 :: r2, hnd, hx =>
                have e1 := (hx a).1 (by simp)
                have e2 := (hx a2).1 (by simp)
                rw [e1, e2] at hnd
                simp at hnd
            subst hss
            obtain ⟨gb, cap, cur, rfl, hbase, hgb, r1, r2, r3, r4⟩ : ∃ gb cap cur, v1 = .slice (some ⟨gb, 0, none⟩) 1 cap ∧ w.heap.size ≤ gb ∧ w1.heap[gb]? = some (.cells cur 107 (0, 0)) ∧ 1 ≤ cap ∧ cap ≤ maxLen ∧ cur.size = cap * 1 ∧ cur.toList.take (1 * 1) = [encU k] := by
              rcases hrow1.2 with ⟨_, h0⟩ | h'
              · cases h0
              · exact h'
            have hsort := sortOne_calls (w := w1) hgb r1 r3 (by simpa using r4) (ρ := ρ) hg h5 (fun α' l' hl' => by have := s.inb α' l' hl'; omega) (fun α' l' hl' => by have := s.inb α' l' hl'; have := hb1.size; omega)
            gi_wp2_with (refine ⟨trivial, ?_⟩; gi_at_call 211; refine (callsIn_wide.2 hsort).mono ?_; rintro e w2 ⟨rfl, q1, q2, q3, q4, q5, C2, e2, fz2, q6, q7, q8, q9⟩)
            go_ret
            have hs1 := hb1.size
            have hold : ∀ b, b < w.heap.size → w2.heap[b]? = w.heap[b]? := fun b hb => (q5 b (by omega) (by omega)).trans (hb1.block b hb)
            have sw2 : Sim ρ M w2 := ⟨s.dom, fun α' l' hl' => by have := s.inb α' l' hl'; omega, fun α' l' B hl' hB => BlkR.mono (Ab.Loc.le_refl ρ) (hold l'.b (s.inb α' l' hl')) (s.blk α' l' B hl' hB), s.sep, s.wf⟩
            let lp : Pl := ⟨gb, 0, 0, 0⟩
            have hle := Ab.Loc.le_upd ρ M.next lp s.none_next
            have hsame := Ab.Loc.upd_same ρ M.next lp
            refine ⟨ρ.upd M.next lp, _, rfl, ?_, ?_, ⟨hle, Nat.le_succ _, by omega, q2.trans hb1.os, q3.trans hb1.tape, q4.trans hb1.output, fun β l' hl' ho => ?_, fun β l' f1 f2 => ?_, fun b hb _ => hold b hb⟩⟩
            · have := VR.sl (ρ := ρ.upd M.next lp) M.next 0 1 none lp cap hsame r1 (.inr ⟨rfl, .inl rfl⟩)
              simpa [lp] using this
            · refine simAdd sw2 s.inb hbase (Array.getElem?_eq_some_iff.1 q6).1 (.cells _ 0 .yes lp C2 e2 fz2 q6 ?_ q8 ⟨fun _ => q9, fun t h => (by cases h), fun t n h => (by cases h)⟩ (fun h => absurd rfl h))
              refine ⟨by have := q7.1; simpa [lp] using this, fun i x y hx' hy' => ?_⟩
              have h0 := q7.2 i x y hx' (by simpa [lp] using hy')
              cases i with
              | zero => simp at hx'; subst hx'; exact h0.closed rfl
              | succ i => simp at hx'
            · have hne : β ≠ M.next := fun e' => by rw [e', s.none_next] at hl'; cases hl'
              unfold AMem.own at ho ⊢
              rw [AMem.get_new, if_neg hne] at ho
              exact ho
            · by_cases e' : β = M.next
              · subst e'
                rw [hsame] at f2; cases f2
                exact ⟨Nat.le_refl _, .inl hbase⟩
              · rw [Ab.Loc.upd_ne _ _ e', f1] at f2; cases f2
          · cases h
        · cases h
      · cases h
    · cases h
  · cases h
end Go.Proofs.YtccmopkjkmpaaaaGreatDoor
