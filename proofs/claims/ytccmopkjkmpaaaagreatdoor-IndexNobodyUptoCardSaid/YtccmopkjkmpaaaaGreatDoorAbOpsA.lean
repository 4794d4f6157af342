/-
  What single operations come to, under the simulation: numbers, strings, '==', parts, literals of aggregates.
-/
import Derived.Test.YtccmopkjkmpaaaaGreatDoorAbMem
import Derived.Laws.StructEq
import Derived.Laws.Append
import Derived.WideLaws
import Derived.Lib.Strings
namespace Go.Ab
set_option linter.unusedSimpArgs false
set_option linter.unusedVariables false

section words
variable {β : Type} {r : β}
theorem bindO_some {α : Type} {x : Option α} {k : α → Option β} (h : bindO x k = some r) : ∃ a, x = some a ∧ k a = some r := by
  cases x with
  | none => cases h
  | some a => exact ⟨a, rfl, h⟩
theorem needB_some {b : Bool} {k : Option β} (h : needB b k = some r) : b = true ∧ k = some r := by
  cases b with
  | false => cases h
  | true => exact ⟨rfl, h⟩
theorem sureB_some {b : Bool} {k : Option β} (h : sureB b k = some r) : b = true ∧ k = some r := by
  cases b with
  | false => cases h
  | true => exact ⟨rfl, h⟩
theorem asInt_some {kd : IntKind} {v : AV} {k : Int → Option β} (h : asInt kd v k = some r) : ∃ n, v = .int kd n ∧ k n = some r := by
  cases v with
  | int kd' n =>
    simp only [asInt] at h
    split at h
    · rename_i e; have e := of_decide_eq_true e; subst e; exact ⟨n, rfl, h⟩
    · cases h
  | _ => cases h
theorem asBool_some {v : AV} {k : Bool → Option β} (h : asBool v k = some r) : ∃ b, v = .bool b ∧ k b = some r := by
  cases v with
  | bool b => exact ⟨b, rfl, h⟩
  | _ => cases h
theorem asStr_some {v : AV} {k : List UInt8 → Option β} (h : asStr v k = some r) : ∃ b, v = .str b ∧ k b = some r := by
  cases v with
  | str b => exact ⟨b, rfl, h⟩
  | _ => cases h
theorem asPtr_some {v : AV} {k : Option (Nat × Nat) → Option β} (h : asPtr v k = some r) : ∃ b, v = .ptr b ∧ k b = some r := by
  cases v with
  | ptr b => exact ⟨b, rfl, h⟩
  | _ => cases h
theorem asSl_some {v : AV} {k : Option (Nat × Nat) → Nat → Option Nat → Option β} (h : asSl v k = some r) : ∃ a l c, v = .slice a l c ∧ k a l c = some r := by
  cases v with
  | slice a l c => exact ⟨a, l, c, rfl, h⟩
  | _ => cases h
theorem asAgg_some {v : AV} {k : List AV → Option β} (h : asAgg v k = some r) : ∃ b, v = .agg b ∧ k b = some r := by
  cases v with
  | agg b => exact ⟨b, rfl, h⟩
  | _ => cases h
theorem asTup_some {v : AV} {k : List AV → Option β} (h : asTup v k = some r) : ∃ b, v = .tup b ∧ k b = some r := by
  cases v with
  | tup b => exact ⟨b, rfl, h⟩
  | _ => cases h
theorem asMap_some {v : AV} {k : Option Nat → Option β} (h : asMap v k = some r) : ∃ b, v = .map b ∧ k b = some r := by
  cases v with
  | map b => exact ⟨b, rfl, h⟩
  | _ => cases h
theorem asCons_some {l : List AV} {k : AV → List AV → Option β} (h : asCons l k = some r) : ∃ x t, l = x :: t ∧ k x t = some r := by
  cases l with
  | nil => cases h
  | cons x t => exact ⟨x, t, rfl, h⟩
theorem asNil_some {l : List AV} {k : Option β} (h : asNil l k = some r) : l = [] ∧ k = some r := by
  cases l with
  | nil => exact ⟨rfl, h⟩
  | cons x t => cases h

theorem shFlat_some {z v : AV} {k : AV → Option β} (h : shFlat z v k = some r) : k v = some r := by
  unfold shFlat at h
  split at h
  · obtain ⟨n, e, h'⟩ := asInt_some h; subst e; exact h'
  · obtain ⟨n, rfl, h⟩ := asBool_some h; exact h
  · obtain ⟨n, rfl, h⟩ := asStr_some h; exact h
  · obtain ⟨n, rfl, h⟩ := asPtr_some h; exact h
  · obtain ⟨a, l, c, rfl, h⟩ := asSl_some h; exact h
  · obtain ⟨n, rfl, h⟩ := asMap_some h; exact h
  · exact h
theorem shFlats_some : ∀ {zs vs : List AV} {k : List AV → Option β}, shFlats zs vs k = some r → k vs = some r := by
  intro zs
  induction zs with
  | nil => intro vs k h; obtain ⟨rfl, h⟩ := asNil_some h; exact h
  | cons z zs ih =>
    intro vs k h
    obtain ⟨x, t, rfl, h⟩ := asCons_some h
    exact ih (k := fun vs => k (x :: vs)) (shFlat_some (k := fun v => shFlats zs t fun vs => k (v :: vs)) h)
theorem shOne_some {z v : AV} {k : AV → Option β} (h : shOne z v k = some r) : k v = some r := by
  unfold shOne at h
  split at h
  · obtain ⟨vs, rfl, h⟩ := asAgg_some h; exact shFlats_some h
  · exact shFlat_some h
theorem shOnes_some : ∀ {zs vs : List AV} {k : List AV → Option β}, shOnes zs vs k = some r → k vs = some r := by
  intro zs
  induction zs with
  | nil => intro vs k h; obtain ⟨rfl, h⟩ := asNil_some h; exact h
  | cons z zs ih =>
    intro vs k h
    obtain ⟨x, t, rfl, h⟩ := asCons_some h
    exact ih (k := fun vs => k (x :: vs)) (shOne_some (k := fun v => shOnes zs t fun vs => k (v :: vs)) h)
theorem shK_some {z : Option AV} {v : AV} {k : AV → Option β} (h : shK z v k = some r) : k v = some r := by
  unfold shK at h
  split at h
  · exact h
  · obtain ⟨vs, rfl, h⟩ := asTup_some h; exact shOnes_some h
  · exact shOne_some h
end words

/-! ### inversions -/
section inv
variable {ρ : Loc} {v : Value}
theorem shQ_some {β : Type} {r : β} {z : Option AV} {v : AV} {k : AV → Option β} (h : shQ z v k = some r) : k v = some r := by
  unfold shQ at h
  split at h
  · exact h
  · exact shK_some h

theorem VR.int_inv {k : IntKind} {n : Int} (h : VR ρ (.int k n) v) : v = .int k n := by cases h; rfl
theorem VR.bool_inv {b : Bool} (h : VR ρ (.bool b) v) : v = .bool b := by cases h; rfl
theorem VR.str_inv {s : List UInt8} (h : VR ρ (.str s) v) : v = .string ⟨s.toArray⟩ := by cases h; rfl
theorem VR.ptr_none_inv (h : VR ρ (.ptr none) v) : v = .pointer none := by cases h; rfl
theorem VR.ptr_inv {α o : Nat} (h : VR ρ (.ptr (some (α, o))) v) : ∃ l, ρ α = some l ∧ v = .pointer (some ⟨l.b, l.p + o, none⟩) := by cases h with | ptr _ _ l e => exact ⟨l, e, rfl⟩
theorem VR.str_mk (s : List UInt8) : VR ρ (.str s) (.string ⟨s.toArray⟩) := VR.str ⟨s.toArray⟩
theorem VR.map_inv {α : Nat} (h : VR ρ (.map (some α)) v) : ∃ l, ρ α = some l ∧ v = .map (some l.b) := by cases h with | map _ l e => exact ⟨l, e, rfl⟩
theorem VR.map_none_inv (h : VR ρ (.map none) v) : v = .map none := by cases h; rfl
theorem VR.iface_inv {t : TypeId} {x : AV} (h : VR ρ (.iface t x) v) : ∃ u, v = .iface t u ∧ VR ρ x u := by cases h with | iface _ _ u e => exact ⟨u, rfl, e⟩
theorem VR.nilIface_inv (h : VR ρ .nilIface v) : v = .nilIface := by cases h; rfl
theorem VR.nilFunc_inv (h : VR ρ .nilFunc v) : v = .nilFunc := by cases h; rfl
theorem VR.func_inv {fn : Fn} {xs cs : List AV} (h : VR ρ (.func fn xs cs) v) : ∃ ys ds, v = .func fn ys.toArray ds.toArray ∧ VL ρ xs ys ∧ VL ρ cs ds := by
  cases h with | func _ _ _ ys ds h1 h2 h3 h4 => exact ⟨ys, ds, rfl, ⟨h1, h3⟩, ⟨h2, h4⟩⟩
/-- a slice's value: its length, and whether it is nil -/
theorem VR.slice_inv {a : Option (Nat × Nat)} {n : Nat} {c : Option Nat} (h : VR ρ (.slice a n c) v) :
    ∃ ad cap, v = .slice ad n cap ∧ n ≤ cap ∧ (a = none → ad = none ∧ n = 0 ∧ cap = 0 ∧ c = some 0) ∧
      (∀ α o, a = some (α, o) → ∃ x, ad = some x ∧
        ((∃ l, ρ α = some l ∧ x = ⟨l.b, l.p + o, none⟩ ∧ (c = some cap ∨ (c = none ∧ (l.sz = 0 ∨ o + cap * l.sz = l.lim)))) ∨ (n = 0 ∧ ((c = none ∧ α = 0 ∧ o = 0) ∨ (c = some 0 ∧ cap = 0))))) := by
  cases h with
  | slnil => exact ⟨none, 0, rfl, Nat.le_refl _, fun _ => ⟨rfl, rfl, rfl, rfl⟩, fun α o e => by cases e⟩
  | sl α o n c l cap e h1 h2 => exact ⟨_, cap, rfl, h1, fun e => (by cases e), fun α' o' e' => by cases e'; exact ⟨_, rfl, .inl ⟨l, e, rfl, h2⟩⟩⟩
  | sl0 x c a cap h1 => exact ⟨_, cap, rfl, Nat.zero_le _, fun e => (by cases e), fun α' o' e' => ⟨a, rfl, .inr ⟨rfl, by
      rcases h1 with ⟨h1, h2⟩ | h1
      · rw [h2] at e'; cases e'; exact .inl ⟨h1, rfl, rfl⟩
      · exact .inr h1⟩⟩⟩

theorem VL.list_cons {x : AV} {xs : List AV} {ys : List Value} (h : VL ρ (x :: xs) ys) : ∃ y yt, ys = y :: yt ∧ VR ρ x y ∧ VL ρ xs yt := by
  cases ys with
  | nil => have := h.1; simp at this
  | cons y yt => exact ⟨y, yt, rfl, h.head, h.tail⟩
theorem VL.list_nil {ys : List Value} (h : VL ρ [] ys) : ys = [] := List.eq_nil_of_length_eq_zero h.1.symm
end inv

/-! ### strings -/
theorem bytesEq_eq : ∀ a b : List UInt8, bytesEq a b = (a == b)
  | [], [] => rfl
  | [], _ :: _ => rfl
  | _ :: _, [] => rfl
  | a :: x, b :: y => by
    simp only [bytesEq, bytesEq_eq x y]
    rw [List.cons_beq_cons]
    congr 1
    rw [Bool.eq_iff_iff]
    simp [UInt8.toNat_inj]

theorem bytesLt_eq : ∀ a b : List UInt8, bytesLt a b = Op.bytesLess a b
  | _, [] => by simp [bytesLt, Op.bytesLess]
  | [], _ :: _ => rfl
  | a :: x, b :: y => by
    simp only [bytesLt, Op.bytesLess, bytesLt_eq x y]
    have h1 : Nat.blt a.toNat b.toNat = decide (a < b) := by
      rw [Bool.eq_iff_iff]; simp [UInt8.lt_iff_toNat_lt]
    have h2 : Nat.beq a.toNat b.toNat = (a == b) := by
      rw [Bool.eq_iff_iff]; simp [UInt8.toNat_inj]
    rw [h1, h2]

theorem mk_toList (s : List UInt8) : (⟨s.toArray⟩ : ByteArray).toList = s := by rw [Lib.toList_data]

/-! ### the operations' results -/
def isVal (n : Next) (x : Value) : Prop := n = .value x ∨ (n = .skip ∧ x = undef)

def OpV (P : Program) (o : Oper) (a : Act) (ρ : Loc) (M : AMem) (w : World) (v : AV) (M' : AMem) : Prop :=
  ∃ ρ' w' n x, (execOp a.eval o).run P w = .ok n w' ∧ isVal n x ∧ VR ρ' v x ∧ Sim ρ' M' w' ∧ Ext ρ M w ρ' M' w'

def OpC (P : Program) (o : Oper) (a : Act) (ρ : Loc) (w : World) (f : FuncId) (args : List AV) : Prop :=
  ∃ vs : List Value, (execOp a.eval o).run P w = .ok (.enter f vs.toArray) w ∧ VL ρ args vs

section
variable {P : Program} {o : Oper} {a : Act} {ρ : Loc} {M : AMem} {w : World}

theorem OpV.pure (s : Sim ρ M w) {v : AV} {x : Value} (hr : (execOp a.eval o).run P w = .ok (.value x) w) (hv : VR ρ v x) : OpV P o a ρ M w v M :=
  ⟨ρ, w, _, x, hr, .inl rfl, hv, s, Ext.refl ρ M w⟩

/-! #### numbers -/
theorem eqI_eq : ∀ a b : Int, eqI a b = (a == b)
  | .ofNat a, .ofNat b => by rw [Bool.eq_iff_iff]; simp [eqI]; omega
  | .negSucc a, .negSucc b => by rw [Bool.eq_iff_iff]; simp [eqI]
  | .ofNat a, .negSucc b => by rw [Bool.eq_iff_iff]; simp [eqI]
  | .negSucc a, .ofNat b => by rw [Bool.eq_iff_iff]; simp [eqI]
theorem leI_eq : ∀ a b : Int, leI a b = decide (a ≤ b)
  | .ofNat a, .ofNat b => by rw [Bool.eq_iff_iff]; simp [leI]
  | .negSucc a, .negSucc b => by rw [Bool.eq_iff_iff]; simp [leI]; omega
  | .ofNat a, .negSucc b => by rw [Bool.eq_iff_iff]; simp [leI]; omega
  | .negSucc a, .ofNat b => by rw [Bool.eq_iff_iff]; simp [leI]; omega
theorem ltI_eq : ∀ a b : Int, ltI a b = decide (a < b)
  | .ofNat a, .ofNat b => by rw [Bool.eq_iff_iff]; simp [ltI, Nat.blt_eq]
  | .negSucc a, .negSucc b => by rw [Bool.eq_iff_iff]; simp [ltI, Nat.blt_eq]; omega
  | .ofNat a, .negSucc b => by rw [Bool.eq_iff_iff]; simp [ltI]; omega
  | .negSucc a, .ofNat b => by rw [Bool.eq_iff_iff]; simp [ltI]; omega

theorem intK_sound {t : TypeId} {β : Type} {r : β} {op : BinOp} {k k' : IntKind} {x y : Int} {kv : AV → Option β} (hk : (isShift op || decide (k = k')) = true) (h : intK op k x y kv = some r) :
    ∃ v u, kv v = some r ∧ (binOp op t (.int k x) (.int k' y)).run P w = .ok u w ∧ VR ρ v u := by
  cases op <;> simp only [isShift, Bool.true_or, Bool.false_or, decide_eq_true_eq] at hk <;> (try subst hk) <;> simp only [intK, forceI_eq, eqI_eq, leI_eq, ltI_eq] at h
  case add => exact ⟨_, _, h, by simp [binOp, Op.intArith], .int _ _⟩
  case sub => exact ⟨_, _, h, by simp [binOp, Op.intArith], .int _ _⟩
  case mul => exact ⟨_, _, h, by simp [binOp, Op.intArith], .int _ _⟩
  case quo =>
    obtain ⟨hb, h⟩ := sureB_some h
    have hb : y ≠ 0 := by simpa using hb
    exact ⟨_, _, h, by simp [binOp, Op.intDiv, hb], .int _ _⟩
  case rem =>
    obtain ⟨hb, h⟩ := sureB_some h
    have hb : y ≠ 0 := by simpa using hb
    exact ⟨_, _, h, by simp [binOp, Op.intDiv, hb], .int _ _⟩
  case and => exact ⟨_, _, h, by simp [binOp, Op.intBits], .int _ _⟩
  case or => exact ⟨_, _, h, by simp [binOp, Op.intBits], .int _ _⟩
  case xor => exact ⟨_, _, h, by simp [binOp, Op.intBits], .int _ _⟩
  case andNot => exact ⟨_, _, h, by simp [binOp, Op.intBits], .int _ _⟩
  case eql => exact ⟨_, _, h, by simp [binOp, Op.intCmp], .bool _⟩
  case neq => exact ⟨_, _, h, by simp [binOp, Op.intCmp, bne], .bool _⟩
  case lss => exact ⟨_, _, h, by simp [binOp, Op.intCmp], .bool _⟩
  case leq => exact ⟨_, _, h, by simp [binOp, Op.intCmp], .bool _⟩
  case gtr => exact ⟨_, _, h, by simp [binOp, Op.intCmp], .bool _⟩
  case geq => exact ⟨_, _, h, by simp [binOp, Op.intCmp], .bool _⟩
  case shl =>
    obtain ⟨hb, h⟩ := sureB_some h
    have hb : ¬ y < 0 := by have := of_decide_eq_true hb; omega
    exact ⟨_, _, h, by simp [binOp, Op.shift, hb], .int _ _⟩
  case shr =>
    obtain ⟨hb, h⟩ := sureB_some h
    have hb : ¬ y < 0 := by have := of_decide_eq_true hb; omega
    exact ⟨_, _, h, by simp [binOp, Op.shift, hb], .int _ _⟩

theorem strK_sound {t : TypeId} {β : Type} {r : β} {op : BinOp} {x y : List UInt8} {kv : AV → Option β} (h : strK op x y kv = some r) :
    ∃ v u, kv v = some r ∧ (binOp op t (.string ⟨x.toArray⟩) (.string ⟨y.toArray⟩)).run P w = .ok u w ∧ VR ρ v u := by
  have e1 : ∀ a : List UInt8, (⟨a.toArray⟩ : ByteArray).size = a.length := fun a => by simp [ByteArray.size]
  have e2 : (⟨x.toArray⟩ : ByteArray) ++ ⟨y.toArray⟩ = ⟨(x ++ y).toArray⟩ := by
    apply ByteArray.ext; simp
  cases op <;> simp only [strK] at h
  case add =>
    obtain ⟨hb, h⟩ := needB_some h
    have hb : x.length + y.length ≤ 9223372036854775807 := Nat.le_of_ble_eq_true hb
    have hmax : IntKind.i64.max = 9223372036854775807 := rfl
    refine ⟨_, .string ⟨(x ++ y).toArray⟩, h, ?_, VR.str_mk _⟩
    simp only [binOp, Op.stringOp, e1, e2]
    rw [if_neg (by omega)]
    rfl
  case eql => exact ⟨_, _, h, by simp [binOp, Op.stringOp, mk_toList, bytesEq_eq], .bool _⟩
  case neq => exact ⟨_, _, h, by simp [binOp, Op.stringOp, mk_toList, bytesEq_eq], .bool _⟩
  case lss => exact ⟨_, _, h, by simp [binOp, Op.stringOp, mk_toList, bytesLt_eq], .bool _⟩
  case leq => exact ⟨_, _, h, by simp [binOp, Op.stringOp, mk_toList, bytesLt_eq, bytesEq_eq], .bool _⟩
  case gtr => exact ⟨_, _, h, by simp [binOp, Op.stringOp, mk_toList, bytesLt_eq, bytesEq_eq], .bool _⟩
  case geq => exact ⟨_, _, h, by simp [binOp, Op.stringOp, mk_toList, bytesLt_eq], .bool _⟩
  all_goals cases h

/-! #### parts of aggregates -/
theorem run_partA {t : TypeId} {cs : List AV} {ys : List Value} {off : Nat} {v : AV} (hv : VL ρ cs ys) (h : partA P t cs off = some v) :
    ∃ x, (part t ys.toArray off).run P w = .ok x w ∧ VR ρ v x := by
  unfold partA at h
  split at h
  · rename_i u i hu hi
    unfold part
    rw [Sem.run_bind, run_isAgg hu, Result.andThen_ok]
    split at h
    · rename_i hagg
      split at h
      · rename_i hle
        cases h
        refine ⟨.agg ((ys.drop off).take i.size).toArray, ?_, ((hv.drop off).take _).agg⟩
        rw [hagg]
        simp only [if_true, Sem.run_bind, run_size hi, Result.andThen_ok, Sem.run_pure]
        congr 2
        apply Array.ext'
        rw [Array.toList_extract]
        simp
      · cases h
    · rename_i hagg
      obtain ⟨y, hy, hvy⟩ := hv.get h
      refine ⟨y, ?_, hvy⟩
      have hf : isAggT P t = false := by simpa using hagg
      rw [hf]
      have : ys.toArray[off]? = some y := by simpa using hy
      simp only [Bool.false_eq_true, if_false, this, Sem.run_pure]
  · cases h
end
end Go.Ab
