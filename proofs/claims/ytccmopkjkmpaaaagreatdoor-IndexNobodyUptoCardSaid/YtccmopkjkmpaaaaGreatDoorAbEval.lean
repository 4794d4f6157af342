/-
  The abstract evaluator: a deterministic big-step interpreter of Go.Code over an abstract memory, in continuation form (so that a kernel run over open terms leaves a plain tree). Definitions only.
-/
import GoSem.Core.Program
import GoSem.Core.Region
import GoSem.Dispatch
namespace Go.Ab

/-- abstract values: addresses are (abstract block, offset); a slice's capacity is 'none' where a draw decided it. -/
inductive AV where
  | bool (b : Bool)
  | int (k : IntKind) (n : Int)
  | str (s : List UInt8)
  | ptr (a : Option (Nat × Nat))
  | slice (a : Option (Nat × Nat)) (len : Nat) (cap : Option Nat)
  | map (r : Option Nat)
  | func (fn : Fn) (first captured : List AV)
  | nilFunc
  | iface (t : TypeId) (v : AV)
  | nilIface
  | agg (cs : List AV)
  | tup (vs : List AV)
  deriving Inhabited

def AV.cells : AV → List AV
  | .agg cs => cs
  | v => [v]

def undefA : AV := .tup []

/-- the value of one cell -/
def flatA : AV → Bool
  | .agg _ => false
  | .tup _ => false
  | _ => true

/-- a trie on natural numbers -/
inductive Tri (α : Type) where
  | nil
  | node (v : Option α) (l r : Tri α)
  deriving Inhabited

def Tri.get {α : Type} : Tri α → Nat → Option α
  | .nil, _ => none
  | .node v l r, k =>
    match k with
    | 0 => v
    | k + 1 => if Nat.beq (Nat.mod k 2) 0 then l.get (Nat.div k 2) else r.get (Nat.div k 2)

def Tri.put {α : Type} (x : Option α) : Nat → Tri α → Nat → Tri α
  | 0, t, _ => t
  | n + 1, t, k =>
    match t, k with
    | .nil, 0 => .node x .nil .nil
    | .node _ l r, 0 => .node x l r
    | .nil, k + 1 => if Nat.beq (Nat.mod k 2) 0 then .node none (Tri.put x n .nil (Nat.div k 2)) .nil else .node none .nil (Tri.put x n .nil (Nat.div k 2))
    | .node v l r, k + 1 => if Nat.beq (Nat.mod k 2) 0 then .node v (Tri.put x n l (Nat.div k 2)) r else .node v l (Tri.put x n r (Nat.div k 2))

def Tri.set {α : Type} (t : Tri α) (k : Nat) (x : α) : Tri α := Tri.put (some x) (k + 1) t k
def Tri.del {α : Type} (t : Tri α) (k : Nat) : Tri α := Tri.put none (k + 1) t k

/-- is a row free of bytes that a string shares ('yes'; 'no': who knows); 'of t': it is, its elements are of type t, and it begins at the block's own begin; 'fz t n': strings may share its first n cells, no more -/
inductive Cl where
  | yes
  | no
  | of (t : TypeId)
  | fz (t : TypeId) (n : Nat)
  deriving Inhabited, DecidableEq

def Cl.b : Cl → Bool
  | .no => false
  | .fz _ _ => false
  | _ => true

/-- so many cells may not be written -/
def Cl.fzn : Cl → Nat
  | .fz _ n => n
  | _ => 0

/-- may the row grow where it is, or in a new block of elements of type 'e' -/
def Cl.grows (e : TypeId) (q : Nat) : Cl → Bool
  | .fz t _ => Nat.beq t e && Nat.beq q 0
  | _ => true

def beqCl : Cl → Cl → Bool
  | .yes, .yes => true
  | .no, .no => true
  | .of a, .of b => Nat.beq a b
  | .fz a n, .fz b m => Nat.beq a b && Nat.beq n m
  | _, _ => false

/-- a row that takes another's place, in a new block of elements of type 'e' -/
def Cl.re (e : TypeId) : Cl → Cl
  | .of t => (match Nat.beq t e with | true => .of t | false => .yes)
  | c => c

/-- a block: own cells (sz: the size of an element, where a slice of unknown capacity lies in it, else 0; clean: no byte of it is shared with a string); cells that are only read; a map -/
inductive ABlk where
  | cells (c : List AV) (sz : Nat) (clean : Cl)
  | ro (c : List AV)
  | map (es : List (AV × AV × Nat)) (clock : Nat)
  deriving Inhabited

structure AMem where
  next : Nat
  t : Tri ABlk
  deriving Inhabited

def AMem.get (M : AMem) (a : Nat) : Option ABlk := M.t.get a
def AMem.set (M : AMem) (a : Nat) (b : ABlk) : AMem := ⟨M.next, M.t.set a b⟩
def AMem.kill (M : AMem) (a : Nat) : AMem := ⟨M.next, M.t.del a⟩
def AMem.new (M : AMem) (b : ABlk) : AMem := ⟨M.next + 1, M.t.set M.next b⟩

def AMem.row (M : AMem) (a : Nat) : Option (List AV) :=
  match M.get a with
  | some (.cells c _ _) => some c
  | some (.ro c) => some c
  | _ => none

abbrev Fr := Tri AV

/-! ### continuation words -/
section words
variable {β : Type}

/-- the kernel unfolds what names 'tall' ahead of 'needB' and 'ifB', whose tests it should leave alone -/
def short : Unit := ()
def tall1 : Unit := short
def tall2 : Unit := tall1
def tall3 : Unit := tall2
def tall4 : Unit := tall3
def tall5 : Unit := tall4
def tall6 : Unit := tall5
def tall7 : Unit := tall6
def tall8 : Unit := tall7
def tall9 : Unit := tall8
def tall10 : Unit := tall9
def tall11 : Unit := tall10
def tall12 : Unit := tall11
def tall13 : Unit := tall12
def tall14 : Unit := tall13
def tall15 : Unit := tall14
def tall16 : Unit := tall15
/-- taller than 'forceI' too: a sum that is told on one side must not be unfolded ahead of a word on the other -/
def tall : Unit := tall16
def bindO {α : Type} (x : Option α) (k : α → Option β) : Option β := match x with | some a => k a | none => (let _ := tall; none)
/-- the same, for what is told by the frame and the program alone: the kernel unfolds it ahead of 'bindO' -/
def taller : Unit := tall
def goO {α : Type} (x : Option α) (k : α → Option β) : Option β := match x with | some a => k a | none => (let _ := taller; none)
def needB (b : Bool) (k : Option β) : Option β := match b with | true => k | false => none
/-- a test that is mostly known -/
def sureB (b : Bool) (k : Option β) : Option β := match b with | true => k | false => (let _ := tall; none)
def ifB {α : Type} (b : Bool) (x y : α) : α := match b with | true => x | false => y
def asInt (kd : IntKind) (v : AV) (k : Int → Option β) : Option β := match v with | .int kd' n => (match decide (kd = kd') with | true => k n | false => none) | _ => (let _ := tall; none)
def asBool (v : AV) (k : Bool → Option β) : Option β := match v with | .bool b => k b | _ => (let _ := tall; none)
def asStr (v : AV) (k : List UInt8 → Option β) : Option β := match v with | .str s => k s | _ => (let _ := tall; none)
def asPtr (v : AV) (k : Option (Nat × Nat) → Option β) : Option β := match v with | .ptr a => k a | _ => (let _ := tall; none)
def asSl (v : AV) (k : Option (Nat × Nat) → Nat → Option Nat → Option β) : Option β := match v with | .slice a l c => k a l c | _ => (let _ := tall; none)
def asAgg (v : AV) (k : List AV → Option β) : Option β := match v with | .agg cs => k cs | _ => (let _ := tall; none)
def asTup (v : AV) (k : List AV → Option β) : Option β := match v with | .tup cs => k cs | _ => (let _ := tall; none)
def asMap (v : AV) (k : Option Nat → Option β) : Option β := match v with | .map r => k r | _ => (let _ := tall; none)
def asCons (l : List AV) (k : AV → List AV → Option β) : Option β := match l with | x :: r => k x r | [] => (let _ := tall; none)
def asNil (l : List AV) (k : Option β) : Option β := match l with | [] => k | _ :: _ => (let _ := tall; none)

/-- a flat value, taken apart by the shape of its type's zero -/
def shFlat (z v : AV) (k : AV → Option β) : Option β :=
  match z with
  | .int kd _ => asInt kd v fun n => k (.int kd n)
  | .bool _ => asBool v fun b => k (.bool b)
  | .str _ => asStr v fun s => k (.str s)
  | .ptr _ => asPtr v fun a => k (.ptr a)
  | .slice _ _ _ => asSl v fun a l c => k (.slice a l c)
  | .map _ => asMap v fun r => k (.map r)
  | _ => k v

def shFlats : List AV → List AV → (List AV → Option β) → Option β
  | [], vs, k => asNil vs (k [])
  | z :: zs, vs, k => asCons vs fun v vs => shFlat z v fun v => shFlats zs vs fun vs => k (v :: vs)

def shOne (z v : AV) (k : AV → Option β) : Option β :=
  match z with
  | .agg zs => asAgg v fun vs => shFlats zs vs fun vs => k (.agg vs)
  | z => shFlat z v k

def shOnes : List AV → List AV → (List AV → Option β) → Option β
  | [], vs, k => asNil vs (k [])
  | z :: zs, vs, k => asCons vs fun v vs => shOne z v fun v => shOnes zs vs fun vs => k (v :: vs)

/-- a value of the type whose zero is 'z' -/
def shK (z : Option AV) (v : AV) (k : AV → Option β) : Option β :=
  match z with
  | none => k v
  | some (.tup zs) => asTup v fun vs => shOnes zs vs fun vs => k (.tup vs)
  | some z => shOne z v k

/-- the same, but for what has no value's type -/
def shQ (z : Option AV) (v : AV) (k : AV → Option β) : Option β :=
  match z with
  | some (.tup _) => k v
  | z => shK z v k
end words

/-- constants: flat values, and aggregates of flat values -/
def absFlat : Value → Option AV
  | .bool b => some (.bool b)
  | .int k n => some (.int k n)
  | .string s => some (.str s.data.toList)
  | .pointer none => some (.ptr none)
  | .slice none l c => if l = 0 ∧ c = 0 then some (.slice none 0 (some 0)) else none
  | .map none => some (.map none)
  | .nilFunc => some .nilFunc
  | .nilIface => some .nilIface
  | .func (.func f) a b => if a.size = 0 ∧ b.size = 0 then some (.func (.func f) [] []) else none
  | _ => none

def absL (f : Value → Option AV) : List Value → Option (List AV)
  | [] => some []
  | v :: r => match f v, absL f r with
    | some x, some xs => some (x :: xs)
    | _, _ => none

def absOne : Value → Option AV
  | .agg cs => (absL absFlat cs.toList).map .agg
  | v => absFlat v

def absV : Value → Option AV
  | .tuple cs => (absL absOne cs.toList).map .tup
  | v => absOne v

/-- so many globals are looked at (none, where there is none but bytealg.MaxLen: then nothing is asked of the heap) -/
def gN (P : Program) : Nat :=
  match P.globals.toList.all fun g => g.name == "internal/bytealg.MaxLen" with
  | true => 0
  | false => P.globals.size

def evA (P : Program) (fr : Fr) : Operand → Option AV
  | .tmp t => fr.get t
  | .const v => absV v
  | .global g => if g < gN P then some (.ptr (some (g, 0))) else none
  | .func f => some (.func (.func f) [] [])

def evL (P : Program) (fr : Fr) : List Operand → Option (List AV)
  | [] => some []
  | x :: r => match evA P fr x, evL P fr r with
    | some v, some vs => some (v :: vs)
    | _, _ => none

def evParts (P : Program) (fr : Fr) : List (Nat × Operand) → Option (List (Nat × AV))
  | [] => some []
  | (i, x) :: r => match evA P fr x, evParts P fr r with
    | some v, some vs => some ((i, v) :: vs)
    | _, _ => none

section ops
variable (P : Program)

def isAggT (t : TypeId) : Bool :=
  match P.underlying t with
  | some (.struct _) | some (.array _ _) => true
  | _ => false

def zeroA (t : TypeId) : Option AV := ((P.info? t).bind (·.zero)).bind absV

def partA (t : TypeId) (cs : List AV) (off : Nat) : Option AV :=
  match P.underlying t, P.info? t with
  | some _, some i =>
    if isAggT P t then (if off + i.size ≤ cs.length then some (.agg ((cs.drop off).take i.size)) else none)
    else cs[off]?
  | _, _ => none

def putAt (c : List AV) (off : Nat) (vs : List AV) : Option (List AV) :=
  if off + vs.length ≤ c.length then some (c.take off ++ vs ++ c.drop (off + vs.length)) else none

def fillA (place : Nat → Option (Nat × Nat)) (cells : List AV) : List (Nat × AV) → Option (List AV)
  | [] => some cells
  | (i, v) :: rest =>
    match place i with
    | none => none
    | some (off, size) =>
      if v.cells.length ≠ size then none
      else match putAt cells off v.cells with
        | some cs => fillA place cs rest
        | none => none

def placesA : List Field → Option (List (Nat × Nat))
  | [] => some []
  | f :: fs => match P.info? f.type, placesA fs with
    | some i, some r => some ((f.offset, i.size) :: r)
    | _, _ => none

def repA (zero : List AV) : Nat → List AV
  | 0 => []
  | n + 1 => zero ++ repA zero n

/-- the variable of type 't' at an address -/
def loadA (M : AMem) (t : TypeId) (a : Nat × Nat) : Option AV :=
  match M.row a.1 with
  | some c => partA P t c a.2
  | none => none

def storeA (M : AMem) (t : TypeId) (a : Nat × Nat) (v : AV) : Option AMem :=
  match M.get a.1 with
  | some (.cells c sz cl) =>
    match P.underlying t, P.info? t with
    | some _, some i =>
      if v.cells.length = i.size ∧ v.cells.all flatA = true then
        match putAt c a.2 v.cells with
        | some c' => needB (Nat.ble cl.fzn a.2) (some (M.set a.1 (.cells c' sz cl)))
        | none => none
      else none
    | _, _ => none
  | _ => none

def bytesEq : List UInt8 → List UInt8 → Bool
  | [], [] => true
  | a :: x, b :: y => Nat.beq a.toNat b.toNat && bytesEq x y
  | _, _ => false

def bytesLt : List UInt8 → List UInt8 → Bool
  | _, [] => false
  | [], _ :: _ => true
  | a :: x, b :: y => Nat.blt a.toNat b.toNat || (Nat.beq a.toNat b.toNat && bytesLt x y)

def eqFields (eq : TypeId → AV → AV → Option Bool) (xs ys : List AV) : List Field → Option Bool
  | [] => some true
  | f :: fs =>
    if f.name = "_" then none else
    match partA P f.type xs f.offset, partA P f.type ys f.offset with
    | some x, some y =>
      match eq f.type x y with
      | some true => eqFields eq xs ys fs
      | some false => some false
      | none => none
    | _, _ => none

/-- '==' -/
def eqA (M : AMem) : Nat → TypeId → AV → AV → Option Bool
  | 0, _, _, _ => none
  | d + 1, t, x, y =>
    match P.underlying t, x, y with
    | some .bool, .bool a, .bool b => some (a == b)
    | some (.int _), .int k a, .int k' b => if k = k' then some (a == b) else none
    | some .string, .str a, .str b => some (bytesEq a b)
    | some (.pointer _), .ptr none, .ptr b => some b.isNone
    | some (.pointer _), .ptr (some _), .ptr none => some false
    | some (.pointer e), .ptr (some a), .ptr (some b) =>
      match P.info? e with
      | none => none
      | some i =>
        if i.size = 0 then none else
        if a.1 = b.1 then some (a.2 == b.2)
        else match M.get a.1, M.get b.1 with
          | some (.cells (_ :: _) _ p), some (.cells (_ :: _) _ q) => if p.b && q.b then some false else none
          | _, _ => none
    | some (.interface _), .nilIface, .iface _ _ => some false
    | some (.interface _), .iface _ _, .nilIface => some false
    | some (.interface _), .iface tx vx, .iface ty vy =>
      if tx ≠ ty then some false
      else match P.info? tx with
        | some i => if i.comparable then eqA M d tx vx vy else none
        | none => none
    | some (.struct fields), .agg xs, .agg ys => if P.stoodInHeld t then none else eqFields P (eqA M d) xs ys fields.toList
    | some (.slice _), .slice none _ _, .slice b _ _ => some b.isNone
    | some (.slice _), .slice (some _) _ _, .slice none _ _ => some false
    | some (.map _ _), .map none, .map b => some b.isNone
    | some (.map _ _), .map (some _), .map none => some false
    | some (.func _ _ _), .nilFunc, .nilFunc => some true
    | some (.func _ _ _), .nilFunc, .func _ _ _ => some false
    | some (.func _ _ _), .func _ _ _, .nilFunc => some false
    | _, _, _ => none

def isConstO : Operand → Bool
  | .const _ => true
  | _ => false

def isNilO : Operand → Bool
  | .const (.pointer none) => true
  | .const (.slice none _ _) => true
  | _ => false

def bytesOf : List AV → Option (List UInt8)
  | [] => some []
  | .int .u8 n :: r => (bytesOf r).map (UInt8.ofNat n.toNat :: ·)
  | _ :: _ => none

def cellsFrom (M : AMem) (a : Nat × Nat) (n : Nat) : Option (List AV) :=
  match M.row a.1 with
  | some c => if a.2 + n ≤ c.length then some ((c.drop a.2).take n) else none
  | none => none

def strOfBytes (s : List UInt8) : List AV := s.map fun b => .int .u8 b.toNat

/-- string(bytes) -/
def bytesStr (M : AMem) (a : Option (Nat × Nat)) (n : Nat) : Option (List UInt8) :=
  match a with
  | none => if n = 0 then some [] else none
  | some p => if n = 0 then some [] else (cellsFrom M p n).bind bytesOf

/-- does the block's element size fit (blocks that are only read: any) -/
def szOk (M : AMem) (r : Nat) (size : Nat) : Bool :=
  match M.get r with
  | some (.cells _ sz _) => Nat.beq sz size && !(Nat.beq size 0)
  | some (.ro _) => true
  | _ => false

abbrev SlT := Option (Nat × Nat) × Nat × Option Nat

/-- are so many elements of a row of unknown capacity known -/
def knownA (M : AMem) (size : Nat) (a : Option (Nat × Nat)) (h : Nat) : Bool :=
  match a with
  | none => false
  | some p =>
    match M.get p.1 with
    | some (.cells c sz _) => !(Nat.beq p.1 0) && (!(Nat.beq size 0) && (Nat.beq sz size && Nat.ble (p.2 + h * size) c.length))
    | _ => false

/-- x[l:h] of a slice -/
def cutA (M : AMem) (size : Nat) (a : Option (Nat × Nat)) (len : Nat) (cap : Option Nat) (l h : Nat) : Option SlT :=
  match cap with
  | some c => if l ≤ h ∧ h ≤ c then some (if c = l then a else a.map fun p => (p.1, p.2 + l * size), h - l, some (c - l)) else none
  | none =>
    if l ≤ h ∧ h ≤ len then
      if l = 0 then some (a, h, none)
      else if l = len then some (some (0, 0), 0, none)
      else match a with
        | none => none
        | some p => if szOk M p.1 size then some (some (p.1, p.2 + l * size), h - l, none) else none
    else if l ≤ h ∧ knownA M size a h = true then
      if l = 0 then some (a, h, none)
      else if l = h then some (some (0, 0), 0, none)
      else match a with
        | none => none
        | some p => some (some (p.1, p.2 + l * size), h - l, none)
    else none

/-- x[l:h:m] of a slice -/
def cut3A (size : Nat) (a : Option (Nat × Nat)) (len : Nat) (cap : Option Nat) (l h m : Nat) : Option SlT :=
  if l ≤ h ∧ h ≤ m ∧ m ≤ cap.getD len then some (if m = l then a else a.map fun p => (p.1, p.2 + l * size), h - l, some (m - l)) else none

def keyEq : AV → AV → Option Bool
  | .int k a, .int k' b => if k = k' then some (a == b) else none
  | .str a, .str b => some (bytesEq a b)
  | .bool a, .bool b => some (a == b)
  | _, _ => none

def keyKind : TypeDesc → AV → Bool
  | .int _, .int _ _ => true
  | .string, .str _ => true
  | .bool, .bool _ => true
  | _, _ => false

def findA (k : AV) : List (AV × AV × Nat) → Nat → Option (Option (Nat × AV))
  | [], _ => some none
  | e :: es, i =>
    match keyEq k e.1 with
    | some true => some (some (i, e.2.1))
    | some false => findA k es (i + 1)
    | none => none

def updAt : List (AV × AV × Nat) → Nat → AV → AV → List (AV × AV × Nat)
  | [], _, _, _ => []
  | e :: r, 0, k, v => (k, v, e.2.2) :: r
  | e :: r, i + 1, k, v => e :: updAt r i k v

def eraseAt {α : Type} : List α → Nat → List α
  | [], _ => []
  | _ :: r, 0 => r
  | e :: r, i + 1 => e :: eraseAt r i

def mapRow (M : AMem) : Option Nat → Option (List (AV × AV × Nat))
  | none => some []
  | some r => match M.get r with | some (.map es _) => some es | _ => none

/-- m[k]: the entry, if there is one -/
def lookA (M : AMem) (t : TypeId) (x : Option Nat) (k : AV) : Option (Option AV) :=
  match P.underlying t with
  | some (.map kt _) =>
    match P.underlying kt with
    | some kd =>
      if keyKind kd k then
        match mapRow M x with
        | none => none
        | some es => (findA k es 0).map fun r => r.map (·.2)
      else none
    | _ => none
  | _ => none

def mapUpdA (M : AMem) (t : TypeId) (x : Option Nat) (k v : AV) : Option AMem :=
  match P.underlying t, x with
  | some (.map kt _), some r =>
    match P.underlying kt, M.get r with
    | some kd, some (.map es clock) =>
      if keyKind kd k then
        match findA k es 0 with
        | none => none
        | some (some (i, _)) => some (M.set r (.map (updAt es i k v) clock))
        | some none => some (M.set r (.map (es ++ [(k, v, clock)]) (clock + 1)))
      else none
    | _, _ => none
  | _, _ => none

def mapDelA (M : AMem) (t : TypeId) (x : Option Nat) (k : AV) : Option AMem :=
  match P.underlying t with
  | some (.map kt _) =>
    match P.underlying kt with
    | some kd =>
      if keyKind kd k then
        match x with
        | none => some M
        | some r =>
          match M.get r with
          | some (.map es clock) =>
            match findA k es 0 with
            | none => none
            | some (some (i, _)) => some (M.set r (.map (eraseAt es i) clock))
            | some none => some M
          | _ => none
      else none
    | none => none
  | _ => none

/-- the cells that an append or a copy takes from its source -/
def srcCells (M : AMem) (size : Nat) (n : Nat) : AV → Option (List AV)
  | .slice (some a) len _ => if n ≤ len then (if n = 0 then some [] else cellsFrom M a (n * size)) else none
  | .slice none _ _ => if n = 0 then some [] else none
  | .str s => if n ≤ s.length ∧ size = 1 then some (strOfBytes (s.take n)) else none
  | _ => none

def srcLen : AV → Option Nat
  | .slice _ n _ => some n
  | .str s => some s.length
  | _ => none

def roomA : Nat := 140737488355328

/-- new cells behind a slice -/
def growA (M : AMem) (e : TypeId) (cl0 : Cl) (size : Nat) (base : Option (Nat × Nat)) (len : Nat) (cap : Option Nat) (n : Nat) (new : List AV) : Option (SlT × AMem) :=
  if n = 0 then
    match cap with
    | some c => if len ≤ c then some ((base, len, cap), M) else none
    | none => some ((base, len, cap), M)
  else
  match cap with
  | some c =>
    if len + n ≤ c then
      match base with
      | none => none
      | some a =>
        match M.get a.1 with
        | some (.cells cs sz cl) =>
          if new.all flatA then
            match putAt cs (a.2 + len * size) new with
            | some cs' => needB (Nat.ble cl.fzn (a.2 + len * size)) (some ((base, len + n, cap), M.set a.1 (.cells cs' sz cl)))
            | none => none
          else none
        | _ => none
    else
      match srcCells M size len (.slice base len cap) with
      | some old => some ((some (M.next, 0), len + n, none), M.new (.cells (old ++ new) size cl0))
      | none => none
  | none =>
    match base with
    | none => none
    | some a =>
      match M.get a.1 with
      | some (.cells cs sz cl) =>
        if (0 < len ∨ a.1 ≠ 0) ∧ sz = size ∧ new.all flatA = true then
          match putAt cs (a.2 + len * size) new with
          | some cs' => needB (Nat.ble cl.fzn (a.2 + len * size)) (some ((base, len + n, none), M.set a.1 (.cells cs' sz cl)))
          | none =>
            match srcCells M size len (.slice base len cap) with
            | some old => needB (cl.grows e a.2 && Nat.ble cl.fzn (a.2 + len * size)) (some ((some (M.next, 0), len + n, none), (M.kill a.1).new (.cells (old ++ new) size (cl.re e))))
            | none => none
        else none
      | _ => none

/-- a new row of elements of type 'e': bytes are marked, for strings.Builder -/
def byteCl (e : TypeId) : Cl :=
  match P.underlying e with
  | some (.int .u8) => .of e
  | _ => .yes

/-- a new variable: one that begins with a pointer to its own type (strings.Builder) is marked -/
def allocCl (t : TypeId) : Cl :=
  match P.underlying t with
  | some (.struct fs) =>
    match fs.toList with
    | f :: _ =>
      match P.underlying f.type with
      | some (.pointer u) => (match Nat.beq u t with | true => .of t | false => .yes)
      | _ => .yes
    | [] => .yes
  | _ => .yes

def appendA (M : AMem) (st xt : TypeId) (base : Option (Nat × Nat)) (len : Nat) (cap : Option Nat) (x : AV) : Option (SlT × AMem) :=
  match P.underlying st, P.underlying xt with
  | some (.slice e), some xu =>
    match P.info? e, zeroA P e with
    | some ie, some z =>
      if z.cells.length ≠ ie.size ∨ ie.size = 0 then none else
      match (match xu, x with
        | .int _, .int _ n => if 0 ≤ n ∧ n ≤ 140737488355328 then some (n.toNat, some (repA z.cells n.toNat)) else none
        | .int _, _ => none
        | _, x => (srcLen x).map fun n => (n, srcCells M ie.size n x)) with
      | some (n, some new) => if (len + n) * ie.bytes ≤ roomA ∧ len + n ≤ roomA then growA M e (byteCl P e) ie.size base len cap n new else none
      | _ => none
    | _, _ => none
  | _, _ => none

def copyA (M : AMem) (st : TypeId) (base : Option (Nat × Nat)) (dl : Nat) (x : AV) : Option (Nat × AMem) :=
  match P.underlying st, srcLen x with
  | some (.slice e), some n =>
    match P.info? e with
    | none => none
    | some ie =>
      match srcCells M ie.size (min n dl) x with
      | none => none
      | some new =>
        match base with
        | none => if dl = 0 then some (0, M) else none
        | some a =>
          if min n dl = 0 then some (0, M) else
          match M.get a.1 with
          | some (.cells cs sz cl) =>
            if new.all flatA then
              match putAt cs a.2 new with
              | some cs' => needB (Nat.ble cl.fzn a.2) (some (min n dl, M.set a.1 (.cells cs' sz cl)))
              | none => none
            else none
          | _ => none
  | _, _ => none

def methodA (t : TypeId) (name : String) : Option FuncId :=
  match P.info? t with
  | none => none
  | some i =>
    match i.methods.find? (·.name == name) with
    | none => none
    | some m =>
      if m.path.isEmpty then
        match m.func, P.underlying t with
        | some (f, true), some (.pointer _) => some f
        | some (_, false), some (.pointer _) => none
        | some (f, false), some _ => some f
        | _, _ => none
      else none

/-- a function with a Go body that is entered as one -/
def entersA (f : FuncId) : Bool :=
  match P.funcs[f]? with
  | some fn => fn.body.isSome && !(fn.name == "runtime.NumGoroutine")
  | none => false

/-! ### functions without a body -/
def cmpL : List UInt8 → List UInt8 → Int
  | [], [] => 0
  | [], _ :: _ => -1
  | _ :: _, [] => 1
  | a :: x, b :: y => match Nat.blt a.toNat b.toNat, Nat.blt b.toNat a.toNat with
    | true, _ => -1
    | false, true => 1
    | false, false => cmpL x y

def idxL (c : Nat) : List UInt8 → Nat → Int
  | [], _ => -1
  | a :: x, i => match Nat.beq a.toNat c with
    | true => (i : Int)
    | false => idxL c x (i + 1)

def cntL (c : Nat) : List UInt8 → Nat
  | [] => 0
  | a :: x => match Nat.beq a.toNat c with
    | true => cntL c x + 1
    | false => cntL c x

inductive ExtF where
  | cmp
  | idx
  | same
  | ovl
  | cnt
  | mk

def noRow (n : String) : Bool := !(n == "runtime.NumGoroutine") && ((Extern.allNextRows.lookup n).isNone && ((Extern.allGenericRows.lookup n).isNone && ((Extern.allTypedRows.lookup n).isNone && (Extern.allRows.lookup n).isNone)))

/-- what is modelled of a function without a body -/
def extOf (fn : Func) : Option ExtF :=
  if fn.origin == "" then
    (if fn.name == "internal/bytealg.abigen_runtime_cmpstring" then some .cmp
    else if fn.name == "internal/bytealg.IndexByteString" then some .idx
    else if fn.name == "internal/abi.NoEscape" then some .same
    else if fn.name == "internal/bytealg.CountString" then some .cnt
    else if fn.name == "internal/bytealg.MakeNoZero" then some .mk
    else none)
  else if fn.origin == "slices.overlaps" && noRow fn.name then some .ovl
  else none

/-- a block of which nothing is shared with a string -/
def cleanA (M : AMem) (a : Nat) : Bool :=
  match M.get a with
  | some (.cells (_ :: _) _ k) => k.b
  | _ => false

def extV (M : AMem) (fn : Func) (e : ExtF) (args : List AV) : Option AV :=
  match e, args with
  | .cmp, [.str a, .str b] => some (.int .i64 (cmpL a b))
  | .idx, [.str s, .int .u8 c] => some (.int .i64 (idxL (c.toNat % 256) s 0))
  | .same, [x] => some x
  | .cnt, [.str s, .int .u8 c] => some (.int .i64 (cntL (c.toNat % 256) s))
  | .ovl, [.slice (some a) (_ + 1) _, .slice (some b) (_ + 1) _] =>
    match fn.params.toList with
    | [t, u] =>
      match P.underlying t with
      | some (.slice e) => if (P.info? e).isSome && (Nat.beq t u && (!(Nat.beq a.1 b.1) && (cleanA M a.1 && cleanA M b.1))) then some (.bool false) else none
      | _ => none
    | _ => none
  | _, _ => none

/-- bytealg.MakeNoZero: new bytes of which nothing is known -/
def mkNoZeroA (M : AMem) (fn : Func) (args : List AV) : Option (AV × AMem) :=
  match args, fn.resultTypes.toList with
  | [.int .i64 (.ofNat (n + 1))], [t] =>
    match P.underlying t with
    | some (.slice e) => (match Nat.ble (n + 1) 281474976710656 with | true => some (.slice (some (M.next, 0)) (n + 1) none, M.new (.cells [] 1 (.of e))) | false => none)
    | _ => none
  | _, _ => none

def extA (M : AMem) (f : FuncId) (args : List AV) : Option (AV × AMem) :=
  match P.funcs[f]? with
  | none => none
  | some fn => if fn.body.isNone then (extOf fn).bind fun e => (match e with | .mk => mkNoZeroA P M fn args | e => (extV P M fn e args).map fun v => (v, M)) else none

section cps
variable {β : Type}

/-- comparisons that the kernel decides by the numbers' shape -/
def eqI : Int → Int → Bool
  | .ofNat a, .ofNat b => Nat.beq a b
  | .negSucc a, .negSucc b => Nat.beq a b
  | _, _ => false
def leI : Int → Int → Bool
  | .ofNat a, .ofNat b => Nat.ble a b
  | .negSucc a, .negSucc b => Nat.ble b a
  | .negSucc _, .ofNat _ => true
  | .ofNat _, .negSucc _ => false
def ltI : Int → Int → Bool
  | .ofNat a, .ofNat b => Nat.blt a b
  | .negSucc a, .negSucc b => Nat.blt b a
  | .negSucc _, .ofNat _ => true
  | .ofNat _, .negSucc _ => false

/-- a number is worked out ahead of what follows (the kernel else keeps the sum) -/
def forceI (x : Int) (k : Int → Option β) : Option β :=
  match x with
  | .ofNat 0 => k (.ofNat 0)
  | .ofNat (m + 1) => k (.ofNat (m + 1))
  | .negSucc n => k (.negSucc n)

theorem forceI_eq (x : Int) (k : Int → Option β) : forceI x k = k x := by
  unfold forceI
  split <;> rfl

def intK (op : BinOp) (k : IntKind) (a b : Int) (kv : AV → Option β) : Option β :=
  match op with
  | .add => forceI (k.wrap (a + b)) fun n => kv (.int k n)
  | .sub => forceI (k.wrap (a - b)) fun n => kv (.int k n)
  | .mul => forceI (k.wrap (a * b)) fun n => kv (.int k n)
  | .quo => sureB (!(b == 0)) (kv (.int k (k.wrap (a.tdiv b))))
  | .rem => sureB (!(b == 0)) (kv (.int k (a.tmod b)))
  | .and => kv (.int k (k.wrap (BitVec.ofInt k.bits a &&& BitVec.ofInt k.bits b).toNat))
  | .or => kv (.int k (k.wrap (BitVec.ofInt k.bits a ||| BitVec.ofInt k.bits b).toNat))
  | .xor => kv (.int k (k.wrap (BitVec.ofInt k.bits a ^^^ BitVec.ofInt k.bits b).toNat))
  | .andNot => kv (.int k (k.wrap (BitVec.ofInt k.bits a &&& ~~~ BitVec.ofInt k.bits b).toNat))
  | .eql => kv (.bool (eqI a b))
  | .neq => kv (.bool (!eqI a b))
  | .lss => kv (.bool (ltI a b))
  | .leq => kv (.bool (leI a b))
  | .gtr => kv (.bool (ltI b a))
  | .geq => kv (.bool (leI b a))
  | .shl => sureB (decide (0 ≤ b)) (kv (.int k (k.wrap (a * 2 ^ (min b.toNat k.bits)))))
  | .shr => sureB (decide (0 ≤ b)) (kv (.int k (a.fdiv (2 ^ (min b.toNat k.bits)))))

/-- are two kinds the same, by cases alone -/
def eqKind : IntKind → IntKind → Bool
  | .i8, .i8 | .i16, .i16 | .i32, .i32 | .i64, .i64 | .u8, .u8 | .u16, .u16 | .u32, .u32 | .u64, .u64 => true
  | _, _ => false

theorem eqKind_eq (a b : IntKind) : eqKind a b = decide (a = b) := by cases a <;> cases b <;> rfl

def isShift : BinOp → Bool
  | .shl | .shr => true
  | _ => false

/-- may two texts be put together -/
def addOk (a b : List UInt8) : Bool := Nat.ble (a.length + b.length) 9223372036854775807

def strK (op : BinOp) (a b : List UInt8) (kv : AV → Option β) : Option β :=
  match op with
  | .add => needB (addOk a b) (kv (.str (a ++ b)))
  | .eql => kv (.bool (bytesEq a b))
  | .neq => kv (.bool (!bytesEq a b))
  | .lss => kv (.bool (bytesLt a b))
  | .leq => kv (.bool (bytesLt a b || bytesEq a b))
  | .gtr => kv (.bool (!(bytesLt a b || bytesEq a b)))
  | .geq => kv (.bool (!bytesLt a b))
  | _ => none

/-- '==' and '!=' (neg) on what is neither numbers nor strings -/
def sameK (M : AMem) (neg : Bool) (t : TypeId) (xo yo : Operand) (x y : AV) (kv : AV → Option β) : Option β :=
  match x, y with
  | .nilIface, .nilIface => sureB (isConstO xo || isConstO yo) (sureB (match P.underlying t with | some (.interface _) => true | _ => false) (kv (.bool (!neg))))
  | .agg xs, .agg ys => sureB (!P.eqGuardType P.depth t) (bindO (eqA P M 12 t (.agg xs) (.agg ys)) fun b => kv (.bool (b != neg)))
  | x, y =>
    match isNilO yo, x, y with
    | true, .ptr a, .ptr none => (match P.underlying t with | some (.pointer _) => kv (.bool (a.isNone != neg)) | _ => none)
    | true, .slice a _ _, .slice none _ _ => (match P.underlying t with | some (.slice _) => kv (.bool (a.isNone != neg)) | _ => none)
    | _, x, y => bindO (eqA P M 12 t x y) fun b => kv (.bool (b != neg))

def binK (M : AMem) (op : BinOp) (t : TypeId) (xo yo : Operand) (x y : AV) (kv : AV → Option β) : Option β :=
  match x, y with
  | .int k a, .int k' b => sureB (isShift op || eqKind k k') (intK op k a b kv)
  | .str a, .str b => strK op a b kv
  | x, y =>
    match op with
    | .eql => sameK P M false t xo yo x y kv
    | .neq => sameK P M true t xo yo x y kv
    | _ => none

def unK (op : UnOp) (x : AV) (kv : AV → Option β) : Option β :=
  match op, x with
  | .neg, .int k n => kv (.int k (k.wrap (0 - n)))
  | .xor, .int k n => kv (.int k (k.wrap (BitVec.ofInt k.bits (if k.signed then -1 else k.max) ^^^ BitVec.ofInt k.bits n).toNat))
  | .not, .bool b => kv (.bool !b)
  | _, _ => none

/-- a block that a string may share from here on -/
def stringishA (M : AMem) (a : Nat) : Option AMem :=
  match M.get a with
  | some (.cells c sz k) => (match k.b with | true => some (M.set a (.cells c sz .no)) | false => none)
  | _ => none

/-- a pointer as an unsafe.Pointer -/
def toUnsK (M : AMem) (t : TypeId) (x : AV) (kv : AV → AMem → Option β) : Option β :=
  match x with
  | .ptr none => kv (.ptr none) M
  | .ptr (some a) => goO (P.info? t) fun i => bindO (M.row a.1) fun c => sureB (!(Nat.beq i.size 0) && Nat.blt a.2 c.length) (kv (.ptr (some a)) M)
  | _ => none

/-- an unsafe.Pointer as a pointer, where a variable of that very type begins a block -/
def fromUnsK (M : AMem) (u : TypeId) (x : AV) (kv : AV → AMem → Option β) : Option β :=
  match x with
  | .ptr none => kv (.ptr none) M
  | .ptr (some a) =>
    (match M.get a.1 with
    | some (.cells c 0 (.of t)) => goO (P.info? u) fun _ => sureB (Nat.beq t u && (Nat.beq a.2 0 && (!(Nat.beq (P.cellsOf t) 0) && Nat.ble (P.cellsOf t) c.length))) (kv (.ptr (some a)) M)
    | _ => none)
  | _ => none

def convK (M : AMem) (src dst : TypeId) (x : AV) (kv : AV → AMem → Option β) : Option β :=
  match P.underlying src, P.underlying dst, x with
  | some _, some (.int k), .int _ n => kv (.int k (k.wrap n)) M
  | some _, some .string, .str s => kv (.str s) M
  | some _, some (.slice e), .str s =>
    match P.underlying e with
    | some (.int .u8) => kv (.slice (some (M.next, 0)) s.length none) (M.new (.cells (strOfBytes s) 1 .no))
    | _ => none
  | some (.slice e), some .string, .slice a n _ =>
    match P.underlying e with
    | some (.int .u8) => bindO (bytesStr M a n) fun s => kv (.str s) M
    | _ => none
  | some (.pointer t), some .unsafePointer, x => toUnsK P M t x kv
  | some .unsafePointer, some (.pointer u), x => fromUnsK P M u x kv
  | some (.slice _), some (.slice e), .slice (some a) n c =>
    match P.underlying e with
    | some (.int .u8) => sureB (decide (src = dst) && !(Nat.beq n 0)) (bindO (stringishA M a.1) fun M' => kv (.slice (some a) n c) M')
    | _ => none
  | _, _, _ => none

/-- a bound of a slice expression -/
def boundK (o : Option AV) (d : Nat) (k : Nat → Option β) : Option β :=
  match o with
  | none => k d
  | some (.int _ n) => needB (decide (0 ≤ n)) (k n.toNat)
  | some _ => none

def slK (r : Option SlT) (kv : AV → Option β) : Option β := bindO r fun r => kv (.slice r.1 r.2.1 r.2.2)

def sliceK (M : AMem) (t : TypeId) (x : AV) (lo hi mx : Option AV) (kv : AV → Option β) : Option β :=
  match P.underlying t, x with
  | some .string, .str s =>
    match mx with
    | none => boundK lo 0 fun l => boundK hi s.length fun h => needB (decide (l ≤ h) && decide (h ≤ s.length)) (kv (.str ((s.take h).drop l)))
    | some _ => none
  | some (.slice e), .slice a len cap =>
    match P.info? e, mx, hi with
    | some ie, none, hi => boundK lo 0 fun l => boundK hi len fun h => slK (cutA M ie.size a len cap l h) kv
    | some ie, some m, some h => boundK lo 0 fun l => boundK (some h) 0 fun h => boundK (some m) 0 fun m => slK (cut3A ie.size a len cap l h m) kv
    | _, _, _ => none
  | some (.array n e), .ptr (some a) =>
    match P.info? e, mx with
    | some ie, none => boundK lo 0 fun l => boundK hi n fun h =>
      needB (decide (l ≤ h) && decide (h ≤ n)) (kv (.slice (some (if n = l then a else (a.1, a.2 + l * ie.size))) (h - l) (some (n - l))))
    | _, _ => none
  | _, _ => none

def lenK (M : AMem) (t : TypeId) (x : AV) (kv : AV → Option β) : Option β :=
  match P.underlying t, x with
  | some .string, .str s => kv (.int .i64 s.length)
  | some (.array n _), _ => kv (.int .i64 n)
  | some (.slice _), .slice _ n _ => kv (.int .i64 n)
  | some (.map _ _), .map r => bindO (mapRow M r) fun es => kv (.int .i64 es.length)
  | _, _ => none

def mmK (isMax : Bool) : AV → List AV → (AV → Option β) → Option β
  | x, [], kv => (match x with | .int k n => kv (.int k n) | .str a => kv (.str a) | _ => none)
  | .int k x, .int k' y :: r, kv => sureB (decide (k = k')) (mmK isMax (.int k (if isMax then (if y > x then y else x) else (if y < x then y else x))) r kv)
  | .str a, .str b :: r, kv =>
    (match isMax with
    | true => (match bytesLt a b with | true => mmK isMax (.str b) r kv | false => mmK isMax (.str a) r kv)
    | false => (match bytesLt a b || bytesEq a b with | true => mmK isMax (.str a) r kv | false => mmK isMax (.str b) r kv))
  | _, _, _ => none

/-- zeros -/
def clearA (M : AMem) (t : TypeId) (x : AV) : Option AMem :=
  match P.underlying t, x with
  | some (.map _ _), .map none => some M
  | some (.map _ _), .map (some r) => (match M.get r with | some (.map _ clock) => some (M.set r (.map [] clock)) | _ => none)
  | some (.slice e), .slice a n _ =>
    if n = 0 then some M else
    match a, P.info? e, zeroA P e with
    | some a, some ie, some z =>
      if z.cells.length = ie.size then
        match M.get a.1 with
        | some (.cells cs sz cl) =>
          if (repA z.cells n).all flatA then
            match putAt cs a.2 (repA z.cells n) with
            | some cs' => needB (Nat.ble cl.fzn a.2) (some (M.set a.1 (.cells cs' sz cl)))
            | none => none
          else none
        | _ => none
      else none
    | _, _, _ => none
  | _, _ => none

/-- unsafe.SliceData -/
def sdataK (x : AV) (kv : AV → Option β) : Option β :=
  match x with
  | .slice none _ _ => kv (.ptr none)
  | .slice (some a) (_ + 1) _ => kv (.ptr (some a))
  | _ => none

/-- a marked row's elements, and how many of its cells may not be written -/
def Cl.row : Cl → Option (TypeId × Nat)
  | .of t => some (t, 0)
  | .fz t n => some (t, n)
  | _ => none

/-- unsafe.String: the row's head may not be written from here on -/
def ustrK (M : AMem) (pt : TypeId) (p n : AV) (kv : AV → AMem → Option β) : Option β :=
  match p, n with
  | .ptr _, .int _ (.ofNat 0) => kv (.str []) M
  | .ptr (some a), .int _ (.ofNat (n + 1)) =>
    (match M.get a.1, P.underlying pt with
    | some (.cells c sz cl), some (.pointer e) =>
      bindO cl.row fun tm => bindO (cellsFrom M a (n + 1)) fun cs => bindO (bytesOf cs) fun s => sureB (Nat.beq tm.1 e && (Nat.beq a.2 0 && (Nat.beq (P.cellsOf e) 1 && Nat.ble (n + 1) 9223372036854775807))) (kv (.str s) (M.set a.1 (.cells c sz (.fz tm.1 (max tm.2 (n + 1))))))
    | _, _ => none)
  | _, _ => none

def builtinK (M : AMem) (b : Builtin) (ts : List TypeId) (args : List AV) (kv : AV → AMem → Option β) : Option β :=
  match b, ts, args with
  | .append, [st, xt], [.slice a l c, x] => bindO (appendA P M st xt a l c x) fun r => kv (.slice r.1.1 r.1.2.1 r.1.2.2) r.2
  | .copy, st :: _, [.slice a l _, x] => bindO (copyA P M st a l x) fun r => kv (.int .i64 r.1) r.2
  | .len, t :: _, [x] => lenK P M t x fun v => kv v M
  | .cap, t :: _, [.slice _ _ c] => (match P.underlying t with | some (.slice _) => bindO c fun c => kv (.int .i64 c) M | _ => none)
  | .delete, t :: _, [.map m, k] => bindO (mapDelA P M t m k) fun M' => kv (.tup []) M'
  | .clear, t :: _, [x] => bindO (clearA P M t x) fun M' => kv (.tup []) M'
  | .unsafeSliceData, _, [x] => sdataK x fun v => kv v M
  | .unsafeString, pt :: _, [p, n] => ustrK P M pt p n kv
  | .max, _, x :: r => mmK true x r fun v => kv v M
  | .min, _, x :: r => mmK false x r fun v => kv v M
  | _, _, _ => none

def typeAssertK (x : AV) (asserted : TypeId) (ok : Bool) (kv : AV → Option β) : Option β :=
  match P.underlying asserted, x with
  | some (.interface _), _ => none
  | some _, .nilIface => sureB ok (goO (zeroA P asserted) fun z => kv (.tup [z, .bool false]))
  | some _, .iface t v =>
    if t = asserted then kv (match ok with | true => .tup [v, .bool true] | false => v)
    else sureB ok (goO (zeroA P asserted) fun z => kv (.tup [z, .bool false]))
  | _, _ => none

/-- operations that make one block: the block, and the value at its number -/
def allocA (fr : Fr) (o : Oper) : Option (ABlk × (Nat → AV)) :=
  match o.op with
  | .alloc t => (zeroA P t).map fun z => (.cells z.cells 0 (allocCl P t), fun α => .ptr (some (α, 0)))
  | .box _ x => (evA P fr x).map fun v => (.cells v.cells 0 .yes, fun α => .ptr (some (α, 0)))
  | .buildSlice t len parts =>
    match P.underlying t, evParts P fr parts.toList with
    | some (.slice e), some ps =>
      match P.info? e, zeroA P e with
      | some ie, some z =>
        if z.cells.length = ie.size ∧ len * ie.size ≤ 16777216 ∧ (len * ie.size = 0 ∨ ie.size ≠ 0) then
          (fillA (fun i => some (i * ie.size, ie.size)) (repA z.cells len) ps).map fun cs => (.cells cs 0 .yes, fun α => .slice (some (α, 0)) len (some len))
        else none
      | _, _ => none
    | _, _ => none
  | .makeMap t r =>
    match r with
    | none => some (.map [] 0, fun α => .map (some α))
    | some h =>
      match P.underlying t, evA P fr h with
      | some (.map _ _), some (.int _ _) => some (.map [] 0, fun α => .map (some α))
      | _, _ => none
  | .makeSlice t l c =>
    match P.underlying t, evA P fr l, evA P fr c with
    | some (.slice e), some (.int _ l), some (.int _ c) =>
      match P.info? e, zeroA P e with
      | some ie, some z =>
        if z.cells.length = ie.size ∧ 0 ≤ l ∧ l ≤ c ∧ c ≤ 140737488355328 ∧ c.toNat * ie.bytes ≤ roomA then
          some (.cells (repA z.cells c.toNat) 0 .yes, fun α => .slice (some (α, 0)) l.toNat (some c.toNat))
        else none
      | _, _ => none
    | _, _, _ => none
  | _ => none

/-- one operation: 'kv' takes its value, 'kc' a call -/
def opK (fr : Fr) (M : AMem) (o : Oper) (kv : AV → AMem → Option β) (kc : FuncId → List AV → Option β) : Option β :=
  match o.op with
  | .move x | .assign x => goO (evA P fr x) fun v => kv v M
  | .pick c a b =>
    goO (evA P fr c) fun c => goO (evA P fr a) fun a => goO (evA P fr b) fun b =>
    match c with
    | .bool t => (match a, b with
      | .bool x, .bool y => kv (.bool (cond t x y)) M
      | a, b => (match t with | true => kv a M | false => kv b M))
    | _ => none
  | .alloc _ | .box .. | .buildSlice .. | .makeMap .. =>
    goO (allocA P fr o) fun r => kv (r.2 M.next) (M.new r.1)
  | .makeSlice t l c =>
    match P.underlying t, evA P fr l, evA P fr c with
    | some (.slice e), some (.int _ l), some (.int _ c) =>
      (match P.info? e, zeroA P e with
      | some ie, some z =>
        (match decide (z.cells.length = ie.size) with
        | true => needB (decide (0 ≤ l) && (decide (l ≤ c) && (decide (c ≤ 140737488355328) && decide (c.toNat * ie.bytes ≤ 140737488355328)))) (kv (.slice (some (M.next, 0)) l.toNat (some c.toNat)) (M.new (.cells (repA z.cells c.toNat) 0 .yes)))
        | false => none)
      | _, _ => none)
    | _, _, _ => none
  | .build t parts =>
    goO (zeroA P t) fun z => goO (evParts P fr parts.toList) fun ps =>
    match P.underlying t with
    | some (.struct fields) =>
      goO (placesA P fields.toList) fun pl => goO (fillA (fun i => pl[i]?) z.cells ps) fun cs => kv (.agg cs) M
    | some (.array _ e) =>
      goO (P.info? e) fun ie => goO (fillA (fun i => some (i * ie.size, ie.size)) z.cells ps) fun cs => kv (.agg cs) M
    | _ => none
  | .load t a =>
    goO (evA P fr a) fun a =>
    asPtr a fun a => bindO a fun p => bindO (loadA P M t p) fun v => shK (zeroA P t) v fun v => kv v M
  | .store t a x =>
    goO (evA P fr a) fun a => goO (evA P fr x) fun v =>
    asPtr a fun a => bindO a fun p => bindO (storeA P M t p v) fun M' => kv undefA M'
  | .nilCheck x =>
    goO (evA P fr x) fun v =>
    match v with
    | .ptr a => bindO a fun p => kv (.ptr (some p)) M
    | .func (.func f) a b => kv (.func (.func f) a b) M
    | .iface t v => kv (.iface t v) M
    | _ => none
  | .binOp op t x y _ => goO (evA P fr x) fun a => goO (evA P fr y) fun b => binK P M op t x y a b fun v => kv v M
  | .unOp op _ x => goO (evA P fr x) fun a => unK op a fun v => kv v M
  | .convert s d x => goO (evA P fr x) fun a => convK P M s d a kv
  | .makeInterface t x =>
    goO (evA P fr x) fun v =>
    match P.underlying t with
    | some (.interface _) => none
    | some _ => kv (.iface t v) M
    | none => none
  | .makeFunc fn first captured => goO (evL P fr first.toList) fun a => goO (evL P fr captured.toList) fun b => kv (.func fn a b) M
  | .slice t x lo hi mx =>
    goO (evA P fr x) fun v => goO (evL P fr lo.toList) fun l => goO (evL P fr hi.toList) fun h => goO (evL P fr mx.toList) fun m =>
    sliceK P M t v l.head? h.head? m.head? fun v => kv v M
  | .fieldAddr s x f =>
    goO (evA P fr x) fun v => asPtr v fun a => bindO a fun p =>
    match P.underlying s with
    | some (.struct fields) =>
      goO fields[f]? fun fd => goO (P.info? fd.type) fun i => sureB (!(Nat.beq i.size 0)) (kv (.ptr (some (p.1, p.2 + fd.offset))) M)
    | _ => none
  | .field s x f =>
    goO (evA P fr x) fun v => asAgg v fun cs =>
    match P.underlying s with
    | some (.struct fields) => goO fields[f]? fun fd => bindO (partA P fd.type cs fd.offset) fun v => kv v M
    | _ => none
  | .indexAddr t x ix =>
    goO (evA P fr x) fun x => goO (evA P fr ix) fun ix =>
    match P.underlying t, x, ix with
    | some (.slice e), .slice a len _, .int _ i =>
      goO (P.info? e) fun ie => needB (decide (0 ≤ i) && decide (i < len)) (bindO a fun a => kv (.ptr (some (a.1, a.2 + i.toNat * ie.size))) M)
    | some (.array n e), .ptr a, .int _ i =>
      goO (P.info? e) fun ie => needB (decide (0 ≤ i) && decide (i < n)) (bindO a fun a => kv (.ptr (some (a.1, a.2 + i.toNat * ie.size))) M)
    | _, _, _ => none
  | .index t x ix =>
    goO (evA P fr x) fun x => goO (evA P fr ix) fun ix =>
    match P.underlying t, x, ix with
    | some .string, .str s, .int _ i => needB (decide (0 ≤ i)) (bindO s[i.toNat]? fun b => kv (.int .u8 b.toNat) M)
    | some (.array n e), .agg cs, .int _ i =>
      goO (P.info? e) fun ie => needB (decide (0 ≤ i) && decide (i < n)) (bindO (partA P e cs (i.toNat * ie.size)) fun v => shK (zeroA P e) v fun v => kv v M)
    | _, _, _ => none
  | .lookup t x k ok =>
    goO (evA P fr x) fun m => goO (evA P fr k) fun key => asMap m fun r =>
    match P.underlying t with
    | some (.map _ et) =>
      goO (zeroA P et) fun z => bindO (lookA P M t r key) fun e =>
      match e with
      | some v => shK (some z) v fun v => kv (match ok with | true => .tup [v, .bool true] | false => v) M
      | none => kv (match ok with | true => .tup [z, .bool false] | false => z) M
    | _ => none
  | .mapUpdate t m k x | .insert t m k x =>
    goO (evA P fr m) fun m => goO (evA P fr k) fun k => goO (evA P fr x) fun v => asMap m fun r => bindO (mapUpdA P M t r k v) fun M' => kv undefA M'
  | .extract t i =>
    goO (evA P fr t) fun t => asTup t fun vs => bindO vs[i]? fun v => kv v M
  | .typeAssert x _ asserted ok => goO (evA P fr x) fun v => typeAssertK P v asserted ok fun v => kv v M
  | .call c =>
    goO (evL P fr c.args.toList) fun args =>
    match c.callee with
    | .builtin b => builtinK P M b c.argTypes.toList args kv
    | .invoke recv name =>
      goO (evA P fr recv) fun r =>
      match r with
      | .iface t v => goO (methodA P t name) fun f => sureB (entersA P f) (kc f (v :: args))
      | _ => none
    | .value x =>
      goO (evA P fr x) fun v =>
      match v with
      | .func (.func f) first captured => (match entersA P f with
        | true => kc f (first ++ args ++ captured)
        | false => bindO (extA P M f (first ++ args ++ captured)) fun r => kv r.1 r.2)
      | _ => none
  | _ => none

abbrev CallA := FuncId → List AV → AMem → Option (AV × AMem)

/-- one operation that is not passed over, calls done -/
def doK (call : CallA) (fr : Fr) (M : AMem) (o : Oper) (k : AV → AMem → Option β) : Option β :=
  opK P fr M o k fun f args => bindO (call f args M) fun r => shK (zeroA P o.type) r.1 fun v => k v r.2

def putA (nt : Nat) (fr : Fr) (d : Option Tmp) (v : AV) : Option Fr :=
  match d with
  | some d => if Nat.blt d nt then some (fr.set d v) else none
  | none => some fr

def runK (call : CallA) (nt : Nat) : List Oper → Fr → AMem → (Fr → AMem → Option β) → Option β
  | [], fr, M, k => k fr M
  | o :: rest, fr, M, k => doK P call fr M o fun v M' => goO (putA nt fr o.dst v) fun fr' => runK call nt rest fr' M' k

def skipA (nt : Nat) : List Oper → Fr → Option Fr
  | [], fr => some fr
  | o :: rest, fr => match putA nt fr o.dst undefA with
    | some fr' => skipA nt rest fr'
    | none => none

/-- neighbours under one guard -/
def groups : List Oper → List (Option (Nat × Bool) × List Oper)
  | [] => []
  | o :: rest =>
    match groups rest with
    | (g, l) :: gs => if g = o.guard then (g, o :: l) :: gs else (o.guard, [o]) :: (g, l) :: gs
    | [] => [(o.guard, [o])]

def guardDst (ops : Array Oper) (j : Nat) : Option Tmp := (ops[j]?).bind (·.dst)

def groupsK (call : CallA) (nt : Nat) (ops : Array Oper) : List (Option (Nat × Bool) × List Oper) → Fr → AMem → (Fr → AMem → Option β) → Option β
  | [], fr, M, k => k fr M
  | (none, l) :: gs, fr, M, k => runK P call nt l fr M fun fr' M' => groupsK call nt ops gs fr' M' k
  | (some (j, want), l) :: gs, fr, M, k =>
    match guardDst ops j with
    | none => none
    | some d =>
      sureB (l.all fun o => !(o.dst == some d))
      (match fr.get d with
        | some (.bool b) =>
          ifB b
            (match (true == want) with
              | true => runK P call nt l (fr.set d (.bool true)) M fun fr' M' => groupsK call nt ops gs fr' M' k
              | false => goO (skipA nt l (fr.set d (.bool true))) fun fr' => groupsK call nt ops gs fr' M k)
            (match (false == want) with
              | true => runK P call nt l (fr.set d (.bool false)) M fun fr' M' => groupsK call nt ops gs fr' M' k
              | false => goO (skipA nt l (fr.set d (.bool false))) fun fr' => groupsK call nt ops gs fr' M k)
        | some (.tup _) => goO (skipA nt l fr) fun fr' => groupsK call nt ops gs fr' M k
        | _ => none)

inductive AExit where
  | normal
  | exit (id : Nat)
  | ret
  deriving Inhabited
end cps
end ops

/-! ### regions that draw their order: one order, the eager one, and what is carried out late is looked at again -/

def beqA.beqL (eq : AV → AV → Bool) : List AV → List AV → Bool
  | [], [] => true
  | x :: xs, y :: ys => eq x y && beqA.beqL eq xs ys
  | _, _ => false

def beqA : Nat → AV → AV → Bool
  | 0, _, _ => false
  | n + 1, x, y =>
    match x, y with
    | .bool a, .bool b => a == b
    | .int j a, .int k b => decide (j = k) && (a == b)
    | .str a, .str b => a == b
    | .ptr a, .ptr b => a == b
    | .slice a l c, .slice b m d => a == b && Nat.beq l m && c == d
    | .map a, .map b => a == b
    | .func f a b, .func g c d => decide (f = g) && beqA.beqL (beqA n) a c && beqA.beqL (beqA n) b d
    | .nilFunc, .nilFunc => true
    | .iface t a, .iface u b => Nat.beq t u && beqA n a b
    | .nilIface, .nilIface => true
    | .agg a, .agg b => beqA.beqL (beqA n) a b
    | .tup a, .tup b => beqA.beqL (beqA n) a b
    | _, _ => false

def beqBlk : Option ABlk → ABlk → Bool
  | some (.cells c s l), .cells d t m => beqA.beqL (beqA 9) c d && Nat.beq s t && beqCl l m
  | some (.map [] a), .map [] b => Nat.beq a b
  | _, _ => false

def isEff (P : Program) (o : Oper) : Bool :=
  match o.op with
  | .move _ | .assign _ | .pick .. | .build .. | .nilCheck _ | .unOp .. | .makeInterface .. | .makeFunc .. | .fieldAddr .. | .field .. | .indexAddr .. | .index .. | .extract .. | .typeAssert .. => false
  | .load .. | .binOp .. | .slice .. | .lookup .. => false
  | .convert _ d _ => (match P.underlying d with | some .string | some (.int _) => false | _ => true)
  | .alloc _ | .box .. | .buildSlice .. | .makeMap .. | .makeSlice .. => false
  | .call c => (match c.callee with | .builtin .len | .builtin .cap | .builtin .max | .builtin .min => false | _ => true)
  | _ => true

def isAlloc (o : Oper) : Bool :=
  match o.op with
  | .alloc _ | .box .. | .buildSlice .. | .makeMap .. | .makeSlice .. => true
  | _ => false

/-- what an operation waits for -/
def depsA : List Edge → List Nat
  | [] => []
  | e :: es => match Region.binds .any e with
    | true => e.on :: depsA es
    | false => depsA es

def ancW (ops : Array Oper) : Nat → List Nat → Nat → List Nat → List Nat
  | 0, _, _, acc => acc
  | _ + 1, [], _, acc => acc
  | f + 1, x :: todo, m, acc =>
    match Nat.beq (Nat.land (Nat.shiftRight m x) 1) 0 with
    | true =>
      (match ops[x]? with
      | some o => ancW ops f (depsA o.after.toList ++ todo) (Nat.lor m (Nat.shiftLeft 1 x)) (x :: acc)
      | none => ancW ops f todo m acc)
    | false => ancW ops f todo m acc

/-- the operations that must come ahead of operation 'j' -/
def ancA (ops : Array Oper) (n j : Nat) : List Nat :=
  match ops[j]? with
  | none => []
  | some o => ancW ops (4 * n * n + 16) (depsA o.after.toList) 0 []

def tmpsOf (l : List Operand) : List Tmp := l.filterMap fun | .tmp t => some t | _ => none

def looksA (ops : Array Oper) (o : Oper) : List Tmp :=
  tmpsOf o.op.operands.toList ++ (match o.guard with | some (j, _) => ((ops[j]?).bind (·.dst)).toList | none => [])

def edgesIn (o : Oper) (done : List Nat) : Bool := o.after.all fun e => !Region.binds .any e || done.contains e.on

/-- the eager order: what is no effect as early as may be -/
def eagerA (P : Program) (ops : Array Oper) : Nat → List Nat → List Nat
  | 0, done => done.reverse
  | n + 1, done =>
    let may (eff : Bool) : Option Nat := (List.range ops.size).find? fun i =>
      match ops[i]? with
      | some o => !done.contains i && (isEff P o == eff) && edgesIn o done
      | none => false
    match may false with
    | some i => eagerA P ops n (i :: done)
    | none => match may true with
      | some i => eagerA P ops n (i :: done)
      | none => done.reverse

/-- is 'ord' an order of the operations in which each comes behind what it waits for, in which what two operations share is in the order that the edges fix, and in which what is no effect is behind an effect only where it waits for it -/
def orderOk (P : Program) (ops : Array Oper) : List Nat → List Nat → Option Nat → Bool
  | [], done, _ => (List.range ops.size).all fun i => done.contains i
  | j :: rest, done, last =>
    match ops[j]? with
    | none => false
    | some o =>
      let anc := ancA ops ops.size j
      !done.contains j && edgesIn o done &&
      (done.all fun i => anc.contains i ||
        (match ops[i]? with
          | none => false
          | some p =>
            (match p.dst with | some d => !(looksA ops o).contains d | none => true) &&
            (match o.dst with | some d => !(looksA ops p).contains d | none => true) &&
            !(isEff P p && isEff P o))) &&
      (match o.dst with | some d => done.all fun i => !(((ops[i]?).bind (·.dst)) == some d) | none => true) &&
      (match last with | none => true | some e => anc.contains e) &&
      orderOk P ops rest (j :: done) (if isEff P o then some j else last)

/-- the slots of a list alone -/
def keepFrom (fr : Fr) : List Nat → Fr → Fr
  | [], acc => acc
  | t :: ts, acc => keepFrom fr ts (match fr.get t with | some v => acc.set t v | none => acc)

/-- the slots of a list that a frame has -/
def keptOf (fr : Fr) (l : List Nat) : List Nat := (l.filter fun t => (fr.get t).isSome).eraseDups

structure LateA where
  i : Nat
  o : Oper
  fr : Fr
  v : AV
  al : Option (Nat × ABlk)
  sk : Bool

section draw
variable {β : Type} (P : Program)

/-- a slice of known capacity -/
def fixedA (x : Option AV) : Bool :=
  match x with
  | some (.slice _ _ (some _)) => true
  | _ => false

/-- an operation that does not look at the memory -/
def freeA (fr : Fr) (o : Oper) : Bool :=
  match o.op with
  | .move _ => true
  | .assign _ => true
  | .slice _ x _ _ _ => fixedA (evA P fr x)
  | _ => false

/-- what may be carried out late gives what it gave -/
def lateK (M : AMem) : List LateA → Option β → Option β
  | [], k => k
  | t :: ts, k =>
    match t.sk, t.al with
    | true, _ => lateK M ts k
    | false, some (α, b) => needB (beqBlk (M.get α) b) (lateK M ts k)
    | false, none =>
      (match freeA P t.fr t.o with
      | true => lateK M ts k
      | false => bindO (opK P t.fr M t.o (fun v' _ => needB (beqA 9 t.v v') (some ())) (fun _ _ => none)) fun _ => lateK M ts k)

/-- an operation whose value hangs on no test over its operands -/
def sureOp (o : Oper) : Bool :=
  match o.op with
  | .move _ | .assign _ | .pick .. | .unOp .. | .fieldAddr .. | .field .. | .extract .. | .nilCheck _ | .makeInterface .. | .makeFunc .. | .build .. | .convert .. => true
  | .binOp op _ _ y _ => (match op with | .add | .sub | .mul => false | .quo | .rem | .shl | .shr => isConstO y | _ => true)
  | _ => false

def sureO {α : Type} (b : Bool) (x : Option α) (k : α → Option β) : Option β :=
  match b with
  | true => goO x k
  | false => bindO x k

/-- an operation that is carried out -/
def actK (call : CallA) (nt : Nat) (ops : Array Oper) (i : Nat) (o : Oper) (fr fr1 : Fr) (M : AMem) (tr nw : List LateA) (kd : Fr → AMem → List LateA → List LateA → Option β) : Option β :=
  match isEff P o, isAlloc o with
  | true, _ => lateK P M tr (doK P call fr1 M o fun v M' => goO (putA nt fr o.dst v) fun fr' => kd fr' M' ((nw ++ tr).filter fun t => !(ancA ops ops.size i).contains t.i) [])
  | false, true => goO (allocA P fr1 o) fun r => goO (putA nt fr o.dst (r.2 M.next)) fun fr' => kd fr' (M.new r.1) ((nw.filter fun t => t.al.isNone) ++ tr) (⟨i, o, fr1, r.2 M.next, some (M.next, r.1), false⟩ :: nw.filter fun t => t.al.isSome)
  | false, false => sureO (sureOp o) (opK P fr1 M o (fun v _ => some v) (fun _ _ => none)) fun v => shQ (zeroA P o.type) v fun v => goO (putA nt fr o.dst v) fun fr' => kd fr' M tr (⟨i, o, fr1, v, none, false⟩ :: nw)

def passK (nt : Nat) (i : Nat) (o : Oper) (fr fr1 : Fr) (M : AMem) (tr nw : List LateA) (kd : Fr → AMem → List LateA → List LateA → Option β) : Option β :=
  goO (putA nt fr o.dst undefA) fun fr' => kd fr' M tr (⟨i, o, fr1, undefA, none, true⟩ :: nw)

def stepK (call : CallA) (nt : Nat) (ops : Array Oper) (i : Nat) (o : Oper) (fr : Fr) (M : AMem) (tr nw : List LateA) (kd : Fr → AMem → List LateA → List LateA → Option β) : Option β :=
  match o.guard with
  | none => actK P call nt ops i o fr (keepFrom fr (looksA ops o) .nil) M tr nw kd
  | some (j, want) =>
    match guardDst ops j with
    | none => none
    | some d =>
      match fr.get d with
      | some (.bool b) =>
        ifB b
          (match (true == want) with
            | true => actK P call nt ops i o (fr.set d (.bool true)) (keepFrom (fr.set d (.bool true)) (looksA ops o) .nil) M tr nw kd
            | false => passK nt i o (fr.set d (.bool true)) (keepFrom (fr.set d (.bool true)) (looksA ops o) .nil) M tr nw kd)
          (match (false == want) with
            | true => actK P call nt ops i o (fr.set d (.bool false)) (keepFrom (fr.set d (.bool false)) (looksA ops o) .nil) M tr nw kd
            | false => passK nt i o (fr.set d (.bool false)) (keepFrom (fr.set d (.bool false)) (looksA ops o) .nil) M tr nw kd)
      | some (.tup _) => passK nt i o fr (keepFrom fr (looksA ops o) .nil) M tr nw kd
      | _ => none

/-- 'tr': what the memory has changed behind, and is to be looked at again; 'nw': what was done at this memory -/
def drawK (call : CallA) (nt : Nat) (ops : Array Oper) : List Nat → Fr → AMem → List LateA → List LateA → (Fr → AMem → Option β) → Option β
  | [], fr, M, tr, _, k => lateK P M tr (k fr M)
  | i :: rest, fr, M, tr, nw, k =>
    goO ops[i]? fun o => stepK P call nt ops i o fr M tr nw fun fr' M' tr' nw' => drawK call nt ops rest fr' M' tr' nw' k

def regionK (call : CallA) (nt : Nat) (ops : Array Oper) (draw : Bool) (fr : Fr) (M : AMem) (k : Fr → AMem → Option β) : Option β :=
  match draw with
  | false => groupsK P call nt ops (groups ops.toList) fr M k
  | true =>
    let ord := eagerA P ops ops.size []
    sureB (Nat.beq ord.length ops.size && orderOk P ops ord [] none) (drawK P call nt ops ord fr M [] [] k)

/-! ### code -/
def loopK (body : Fr → AMem → (AExit → Fr → AMem → Option β) → Option β) (vars : List Nat) : Nat → Fr → AMem → (AExit → Fr → AMem → Option β) → Option β
  | 0, _, _, _ => none
  | n + 1, fr, M, k => body fr M fun e fr' M' =>
    match e with
    | .normal => loopK body vars n (keepFrom fr' vars .nil) M' k
    | e => k e (keepFrom fr' vars .nil) M'

/-- the regions of a code: the slots that each writes, and reads -/
def slotsOf : Code → List (List Nat × List Nat)
  | .region _ ops _ => [(ops.toList.filterMap (·.dst), ops.toList.flatMap fun o => tmpsOf o.op.operands.toList)]
  | .seq a b => slotsOf a ++ slotsOf b
  | .cond _ a b => slotsOf a ++ slotsOf b
  | .block _ c => slotsOf c
  | .loop c => slotsOf c
  | _ => []

def assigned : Code → List Nat
  | .region _ ops _ => ops.toList.filterMap fun o => match o.op with | .assign _ => o.dst | _ => none
  | .seq a b => assigned a ++ assigned b
  | .cond _ a b => assigned a ++ assigned b
  | .block _ c => assigned c
  | .loop c => assigned c
  | _ => []

/-- slots that one region writes and another reads -/
def crossOf : List (List Nat × List Nat) → List (List Nat × List Nat) → List Nat
  | _, [] => []
  | ahead, r :: rest => (r.1.filter fun t => ahead.any (fun q => q.2.contains t) || rest.any (fun q => q.2.contains t)) ++ crossOf (r :: ahead) rest

def resSlots : List ResultVar → List Nat
  | [] => []
  | .tmp t :: r => t :: resSlots r
  | .cell t _ :: r => t :: resSlots r

/-- the slots that a loop's head keeps: those of parameters, results and variables -/
def varsOf (np : Nat) (res : List ResultVar) (c : Code) : List Nat := List.range np ++ resSlots res ++ assigned c ++ (crossOf [] (slotsOf c)).filter fun t => !(assigned c).contains t

def countA (t : Nat) : List Nat → Nat
  | [] => 0
  | x :: r => if Nat.beq x t then countA t r + 1 else countA t r

def isLoop : Code → Bool
  | .loop _ => true
  | _ => false

/-- what a block's own variables leave of a frame -/
def outerFr (vars : List Nat) (c : Code) (fr : Fr) : Fr :=
  match isLoop c with
  | true => fr
  | false => keepFrom fr ((vars.filter fun t => Nat.blt (countA t (assigned c)) (countA t vars)).eraseDups) .nil

def codeK (call : CallA) (nt : Nat) (vars : List Nat) (n : Nat) : Code → Fr → AMem → (AExit → Fr → AMem → Option β) → Option β
  | .skip, fr, M, k => k .normal fr M
  | .label _, fr, M, k => k .normal fr M
  | .ret, fr, M, k => k .ret fr M
  | .exit id, fr, M, k => k (.exit id) fr M
  | .seq a b, fr, M, k => codeK call nt vars n a fr M fun e fr' M' =>
    match e with
    | .normal => codeK call nt vars n b fr' M' k
    | e => k e fr' M'
  | .cond c a b, fr, M, k =>
    goO (evA P fr c) fun c => asBool c fun c => ifB c (codeK call nt vars n a fr M k) (codeK call nt vars n b fr M k)
  | .block id c, fr, M, k => codeK call nt vars n c fr M fun e fr' M' =>
    match e with
    | .exit id' => (match Nat.beq id' id with | true => k .normal (outerFr vars c fr') M' | false => k (.exit id') fr' M')
    | .normal => k .normal (outerFr vars c fr') M'
    | .ret => k .ret fr' M'
  | .loop c, fr, M, k => loopK (fun fr M k => codeK call nt vars n c fr M k) (keptOf fr vars) n (keepFrom fr vars .nil) M k
  | .region _ ops draw, fr, M, k => regionK P call nt ops draw fr M fun fr' M' => k .normal fr' M'
  | _, _, _, _ => none

def frOf : Nat → List AV → Fr → Fr
  | _, [], fr => fr
  | i, v :: r, fr => frOf (i + 1) r (fr.set i v)

def resultsK (M : AMem) (fr : Fr) : List ResultVar → (List AV → Option β) → Option β
  | [], k => k []
  | .tmp t :: r, k => goO (fr.get t) fun v => resultsK M fr r fun vs => k (v :: vs)
  | .cell a t :: r, k =>
    goO (fr.get a) fun p => asPtr p fun p => bindO p fun p => bindO (loadA P M t p) fun v => shK (zeroA P t) v fun v => resultsK M fr r fun vs => k (v :: vs)

def packA : List AV → AV
  | [v] => v
  | vs => .tup vs

abbrev Hook := FuncId → Option (List AV → AMem → Option (AV × AMem))

/-- a function's body, once -/
def bodyA (call : CallA) (n : Nat) (fn : Func) (args : List AV) (M : AMem) : Option (AV × AMem) :=
  goO fn.body fun c =>
  sureB (!(Nat.blt fn.ntmps args.length))
  (codeK P call fn.ntmps (varsOf args.length fn.results.toList c) n c (frOf 0 args .nil) M fun e fr M' =>
    match e with
    | .exit _ => none
    | _ => resultsK P M' fr fn.results.toList fun vs => some (packA vs, M'))

def acall (hook : Hook) : Nat → FuncId → List AV → AMem → Option (AV × AMem)
  | 0, _, _, _ => none
  | n + 1, f, args, M =>
    match hook f with
    | some h => h args M
    | none => goO P.funcs[f]? fun fn => bodyA P (acall hook n) n fn args M
end draw
end Go.Ab
