/-
  Abstract values, abstract states and an evaluator of the program's code over them (definitions alone).
-/
import Derived.RowKit3
import Derived.Below
import Derived.Laws.AppendOwn
import Derived.Laws.MakeOwn
import Derived.Laws.OwnMore
import Derived.Orders
import Derived.Laws.BytesArg
import Derived.KernelRfl
set_option linter.unusedVariables false
namespace Go.Proofs.YtcbeifkfllcjoaaDoor

/-! ### Types of plain data, and what they hold -/
inductive Ty where
  | int (k : IntKind)
  | bool
  | str
  | slice (e : Ty)
  | unit
  | pair (a b : Ty)
  deriving DecidableEq

@[reducible] def Ty.Den : Ty → Type
  | .int _ => Int
  | .bool => Bool
  | .str => ByteArray
  | .slice e => List e.Den
  | .unit => Unit
  | .pair a b => a.Den × b.Den

def Ty.zero : (τ : Ty) → τ.Den
  | .int _ => (0 : Int)
  | .bool => false
  | .str => ByteArray.empty
  | .slice _ => []
  | .unit => ()
  | .pair a b => (a.zero, b.zero)

def Ty.size : Ty → Nat
  | .unit => 0
  | .pair a b => a.size + b.size
  | _ => 1

def Ty.isAgg : Ty → Bool
  | .unit | .pair .. => true
  | _ => false

/-- no slice within -/
def Ty.flat : Ty → Bool
  | .slice _ => false
  | .pair a b => a.flat && b.flat
  | _ => true

def castDen {τ τ' : Ty} (x : τ.Den) : Option τ'.Den := if h : τ = τ' then some (h ▸ x) else none

def tyOf (P : Program) : Nat → TypeId → Option Ty
  | 0, _ => none
  | d + 1, t =>
    match P.underlying t with
    | some (.int k) => some (.int k)
    | some .bool => some .bool
    | some .string => some .str
    | some (.slice e) => (tyOf P d e).map .slice
    | some (.struct fs) => fs.toList.foldr (fun f acc => match tyOf P d f.type, acc with | some a, some b => some (.pair a b) | _, _ => none) (some .unit)
    | some (.array n e) => (List.range n).foldr (fun _ acc => match tyOf P d e, acc with | some a, some b => some (.pair a b) | _, _ => none) (some .unit)
    | _ => none

/-! ### Abstract values -/
inductive A where
  | undef
  | val (τ : Ty) (x : τ.Den)
  | nil
  | emp
  | ref (o : Nat)
  | pel (o i sz off : Nat)
  | pst (τ : Ty) (x : τ.Den) (off : Nat)
  | pcs (cells : List A) (off : Nat)
  | pbox (o off : Nat)
  | mapr (o : Nat)
  | glob (g : Nat)
  | clo (f : Nat) (caps : List A)
  | agg (cells : List A)
  | tup (vs : List A)

inductive O where
  | arr (e : TypeId) (τ : Ty) (xs : List τ.Den) (frz : Bool)
  | box (t : TypeId) (cells : List A) (frz : Bool)
  | map (κ ν : Ty) (es : List (κ.Den × ν.Den))
  | row (e : TypeId) (n sz : Nat) (cells : List A)

structure St where
  env : List A
  objs : List (Nat × O)
  next : Nat
  np : Nat

mutual
def A.ids : A → List Nat
  | .ref o => [o]
  | .pel o _ _ _ => [o]
  | .pbox o _ => [o]
  | .mapr o => [o]
  | .pcs cs _ => idsL cs
  | .clo _ cs => idsL cs
  | .agg cs => idsL cs
  | .tup cs => idsL cs
  | _ => []
def idsL : List A → List Nat
  | [] => []
  | a :: l => a.ids ++ idsL l
end

def O.ids : O → List Nat
  | .box _ cells _ => idsL cells
  | .row _ _ _ cells => idsL cells
  | _ => []

def O.frzB : O → Bool
  | .arr _ _ _ f => f
  | .box _ _ f => f
  | .map .. => false
  | .row .. => false

def lookO : List (Nat × O) → Nat → Option O
  | [], _ => none
  | (k, x) :: l, o => if k = o then some x else lookO l o

def hasN : List Nat → Nat → Bool
  | [], _ => false
  | k :: l, o => if k = o then true else hasN l o

def idxN : List Nat → Nat → Option Nat
  | [], _ => none
  | k :: l, o => if k = o then some 0 else (idxN l o).map (· + 1)

def dropO : List (Nat × O) → Nat → List (Nat × O)
  | [], _ => []
  | (k, x) :: l, o => if k = o then dropO l o else (k, x) :: dropO l o

def putO (l : List (Nat × O)) : List (Nat × Option O) → List (Nat × O)
  | [] => l
  | (o, some x) :: u => putO ((o, x) :: dropO l o) u
  | (o, none) :: u => putO (dropO l o) u

/-! ### Cells -/
def cellsV : (τ : Ty) → τ.Den → List A
  | .int k, x => [.val (.int k) x]
  | .bool, x => [.val .bool x]
  | .str, x => [.val .str x]
  | .slice e, x => [.val (.slice e) x]
  | .unit, _ => []
  | .pair a b, x => cellsV a x.1 ++ cellsV b x.2

def A.cells : A → List A
  | .val τ x => cellsV τ x
  | .agg cs => cs
  | a => [a]

/-- one cell as a value of a type; rows of the call's own that it leads to are told, to be frozen -/
def oneVal (look : Nat → Option O) (τ : Ty) : A → Option (τ.Den × List Nat)
  | .val τ' x => (castDen x).map (·, [])
  | .nil => match τ with
    | .slice _ => some ([], [])
    | _ => none
  | .emp => match τ with
    | .slice _ => some ([], [])
    | _ => none
  | .ref o => match look o, τ with
    | some (.arr _ τ' xs _), .slice e => (castDen (τ := .slice τ') (τ' := .slice e) xs).map (·, [o])
    | _, _ => none
  | _ => none

def pack (look : Nat → Option O) : (τ : Ty) → List A → Option (τ.Den × List A × List Nat)
  | .unit, l => some ((), l, [])
  | .pair a b, l =>
    match pack look a l with
    | none => none
    | some (x, l, f) => match pack look b l with
      | none => none
      | some (y, l, g) => some ((x, y), l, f ++ g)
  | .int k, a :: l => (oneVal look (.int k) a).map fun (x, f) => (x, l, f)
  | .bool, a :: l => (oneVal look .bool a).map fun (x, f) => (x, l, f)
  | .str, a :: l => (oneVal look .str a).map fun (x, f) => (x, l, f)
  | .slice e, a :: l => (oneVal look (.slice e) a).map fun (x, f) => (x, l, f)
  | _, [] => none

/-- an abstract value as data of a type -/
def toVal (look : Nat → Option O) (τ : Ty) (a : A) : Option (τ.Den × List Nat) :=
  match a with
  | .val τ' x => (castDen x).map (·, [])
  | .agg cs => match pack look τ cs with
    | some (x, [], f) => if τ.isAgg then some (x, f) else none
    | _ => none
  | a => oneVal look τ a

def noLook : Nat → Option O := fun _ => none

/-- cells as a value of a type: data if they are, else an aggregate -/
def ofCells (agg : Bool) (τ : Option Ty) (cs : List A) : Option A :=
  if agg then
    match τ with
    | some τ => match pack noLook τ cs with
      | some (x, [], []) => if τ.isAgg then some (.val τ x) else some (.agg cs)
      | _ => some (.agg cs)
    | none => some (.agg cs)
  else match cs with
    | [a] => some a
    | _ => none

def freezeU (look : Nat → Option O) (ids : List Nat) : List (Nat × Option O) :=
  ids.filterMap fun o => match look o with
    | some (.arr e τ xs _) => some (o, some (.arr e τ xs true))
    | some (.box t cs _) => some (o, some (.box t cs true))
    | _ => none

/-- is this the zero value's list of cells? -/
def isZero : (τ : Ty) → List Value → Option (List Value)
  | .int k, .int k' n :: l => if k = k' ∧ n = 0 then some l else none
  | .bool, .bool b :: l => if b = false then some l else none
  | .str, .string s :: l => if s.size = 0 then some l else none
  | .slice _, .slice none 0 0 :: l => some l
  | .unit, l => some l
  | .pair a b, l => match isZero a l with
    | some l => isZero b l
    | none => none
  | _, _ => none

def zeroOk (P : Program) (t : TypeId) (τ : Ty) : Bool :=
  match P.info? t with
  | some i => match i.zero with
    | some z => (isZero τ z.cells.toList).any (·.isEmpty)
    | none => false
  | none => false

/-! ### What an operation does -/
/-- changes of the view alone: a nil slice as an empty row of the call's own; a value as data (in a variable; in a cell of a box) -/
inductive Fix where
  | nil (t : Nat) (e : TypeId) (τ : Ty)
  | data (t : Nat) (τ : Ty)
  | cnil (o i : Nat) (e : TypeId) (τ : Ty)
  | cdata (o i : Nat) (τ : Ty)

mutual
/-- how a call is taken: by a contract, or by running the callee -/
inductive CallScript where
  | con (byref : List Nat) (res : A) (fin : List (Nat × O)) (freeze pack : Bool)
  | inl (byref : List Nat) (freeze : Bool) (scr : List Scr)
inductive Scr where
  | reg (id : Nat) (dec : List (Nat × Bool)) (calls : List (Nat × CallScript))
  | cond (d : Bool)
  | go
  | stop (fx : List Fix) (live : List Nat) (objs : List (Nat × Nat))
  | adopt (id : Nat) (fx : List Fix)
  | fin (fx : List Fix)
end

structure RegScr where
  dec : List (Nat × Bool)
  calls : List (Nat × CallScript)

structure CallOb where
  f : FuncId
  args : List A
  objs : List O
  res : A
  fin : List (Nat × O)

structure Out where
  v : A
  upd : List (Nat × Option O)
  props : List Bool
  calls : List CallOb

def Out.pure (v : A) : Option Out := some ⟨v, [], [], []⟩
def Out.ifs (v : A) (ps : List Bool) : Option Out := some ⟨v, [], ps, []⟩

def constA : Value → A
  | .int k n => .val (.int k) n
  | .bool b => .val .bool b
  | .string s => .val .str s
  | .slice none 0 0 => .nil
  | _ => .undef

/-- surely one cell -/
def A.one : A → Bool
  | .undef | .agg _ | .tup _ => false
  | .val τ _ => !τ.isAgg
  | _ => true

def isOne : Value → Bool
  | .agg _ | .tuple _ => false
  | _ => true

def zeroCells (P : Program) (t : TypeId) : Option (List A) :=
  match P.info? t with
  | some i => match i.zero with
    | some z => if z.cells.toList.all isOne then some (z.cells.toList.map constA) else none
    | none => none
  | none => none

def sizeT (P : Program) (t : TypeId) : Option Nat := (P.info? t).map (·.size)
def bytesT (P : Program) (t : TypeId) : Option Nat := (P.info? t).map (·.bytes)
/-- a struct or an array? -/
def kindT (P : Program) (t : TypeId) : Option Bool :=
  match P.underlying t with
  | some (.struct _) => some true
  | some (.array _ _) => some true
  | some _ => some false
  | none => none
def A.isAgg : A → Bool
  | .val τ _ => τ.isAgg
  | .agg _ => true
  | _ => false
def elemT (P : Program) (t : TypeId) : Option TypeId :=
  match P.underlying t with
  | some (.slice e) => some e
  | _ => none

def bitsK (op : BinOp) (k : IntKind) (x y : Int) : Int :=
  match op with
  | .and => k.wrap (BitVec.ofInt k.bits x &&& BitVec.ofInt k.bits y).toNat
  | .or => k.wrap (BitVec.ofInt k.bits x ||| BitVec.ofInt k.bits y).toNat
  | .xor => k.wrap (BitVec.ofInt k.bits x ^^^ BitVec.ofInt k.bits y).toNat
  | _ => k.wrap (BitVec.ofInt k.bits x &&& ~~~ (BitVec.ofInt k.bits y)).toNat

def binInt (op : BinOp) (k : IntKind) (x y : Int) : Option Out :=
  match op with
  | .add => Out.pure (.val (.int k) (k.wrap (x + y)))
  | .sub => Out.pure (.val (.int k) (k.wrap (x - y)))
  | .mul => Out.pure (.val (.int k) (k.wrap (x * y)))
  | .quo => Out.ifs (.val (.int k) (k.wrap (x.tdiv y))) [decide (y ≠ 0)]
  | .rem => Out.ifs (.val (.int k) (x.tmod y)) [decide (y ≠ 0)]
  | .and => Out.pure (.val (.int k) (bitsK .and k x y))
  | .or => Out.pure (.val (.int k) (bitsK .or k x y))
  | .xor => Out.pure (.val (.int k) (bitsK .xor k x y))
  | .andNot => Out.pure (.val (.int k) (bitsK .andNot k x y))
  | .eql => Out.pure (.val .bool (x == y))
  | .neq => Out.pure (.val .bool (x != y))
  | .lss => Out.pure (.val .bool (decide (x < y)))
  | .leq => Out.pure (.val .bool (decide (x ≤ y)))
  | .gtr => Out.pure (.val .bool (decide (x > y)))
  | .geq => Out.pure (.val .bool (decide (x ≥ y)))
  | _ => none

def shiftK (op : BinOp) (k : IntKind) (x y : Int) : Option Out :=
  match op with
  | .shl => Out.ifs (.val (.int k) (k.wrap (x * 2 ^ (min y.toNat k.bits)))) [decide (0 ≤ y)]
  | .shr => Out.ifs (.val (.int k) (x.fdiv (2 ^ (min y.toNat k.bits)))) [decide (0 ≤ y)]
  | _ => none

def isShift : BinOp → Bool
  | .shl | .shr => true
  | _ => false

def binK (P : Program) (look : Nat → Option O) (op : BinOp) (t : TypeId) (x y : A) : Option Out :=
  match x, y with
  | .val (.int k) a, .val (.int k') b =>
    if isShift op then shiftK op k a b else if k = k' then binInt op k a b else none
  | .val .bool a, .val .bool b =>
    match P.underlying t, op with
    | some .bool, .eql => Out.pure (.val .bool (a == b))
    | some .bool, .neq => Out.pure (.val .bool (!(a == b)))
    | _, _ => none
  | .val .str a, .val .str b =>
    match op with
    | .eql => Out.pure (.val .bool (a.toList == b.toList))
    | .neq => Out.pure (.val .bool (!(a.toList == b.toList)))
    | .add => Out.ifs (.val .str (a ++ b)) [decide (a.size + b.size ≤ 9223372036854775807)]
    | _ => none
  | .nil, .nil =>
    match P.underlying t, op with
    | some (.slice _), .eql => Out.pure (.val .bool true)
    | some (.slice _), .neq => Out.pure (.val .bool false)
    | _, _ => none
  | .emp, .nil =>
    match P.underlying t, op with
    | some (.slice _), .eql => Out.pure (.val .bool false)
    | some (.slice _), .neq => Out.pure (.val .bool true)
    | _, _ => none
  | .val (.slice _) xs, .nil =>
    match P.underlying t, op with
    | some (.slice _), .eql => Out.ifs (.val .bool false) [decide (0 < xs.length)]
    | some (.slice _), .neq => Out.ifs (.val .bool true) [decide (0 < xs.length)]
    | _, _ => none
  | .ref o, .nil =>
    match P.underlying t, look o, op with
    | some (.slice _), some (.arr _ _ xs _), .eql => Out.ifs (.val .bool false) [decide (0 < xs.length)]
    | some (.slice _), some (.arr _ _ xs _), .neq => Out.ifs (.val .bool true) [decide (0 < xs.length)]
    | some (.slice _), some (.row _ n _ _), .eql => Out.ifs (.val .bool false) [decide (0 < n)]
    | some (.slice _), some (.row _ n _ _), .neq => Out.ifs (.val .bool true) [decide (0 < n)]
    | _, _, _ => none
  | _, _ => none

def unK (op : UnOp) (x : A) : Option Out :=
  match op, x with
  | .neg, .val (.int k) a => Out.pure (.val (.int k) (k.wrap (0 - a)))
  | .not, .val .bool b => Out.pure (.val .bool (!b))
  | .xor, .val (.int k) a => Out.pure (.val (.int k) (bitsK .xor k (if k.signed then -1 else k.max) a))
  | _, _ => none


/-- the elements of a slice value -/
def elems (look : Nat → Option O) (τ : Ty) : A → Option (List τ.Den)
  | .val (.slice e) xs => castDen (τ := .slice e) (τ' := .slice τ) xs
  | .nil => some []
  | .emp => some []
  | .ref o => match look o with
    | some (.arr _ τ' xs _) => castDen (τ := .slice τ') (τ' := .slice τ) xs
    | _ => none
  | _ => none

def lenK (P : Program) (look : Nat → Option O) (t : TypeId) (a : A) : Option Nat :=
  match P.underlying t, a with
  | some (.slice _), .val (.slice _) xs => some xs.length
  | some .string, .val .str s => some s.size
  | some (.slice _), .nil => some 0
  | some (.slice _), .emp => some 0
  | some (.slice _), .ref o => match look o with
    | some (.arr _ _ xs _) => some xs.length
    | some (.row _ n _ _) => some n
    | _ => none
  | some (.map _ _), .mapr o => match look o with
    | some (.map _ _ es) => some es.length
    | _ => none
  | _, _ => none

def subCells (cs : List A) (off n : Nat) : Option (List A) :=
  if off + n ≤ cs.length then some ((cs.drop off).take n) else none

def finLoad (P : Program) (t : TypeId) (n : Nat) (ag : Bool) (cs : List A) (off : Nat) (ps : List Bool) : Option Out :=
  match subCells cs off n with
  | none => none
  | some cs => match ofCells ag (tyOf P 9 t) cs with
    | none => none
    | some v => Out.ifs v ps

def loadK (P : Program) (look : Nat → Option O) (t : TypeId) (addr : A) : Option Out :=
  match sizeT P t, kindT P t with
  | some n, some ag =>
    match addr with
    | .pbox o off => match look o with
      | some (.box _ cells _) => finLoad P t n ag cells off []
      | _ => none
    | .pcs cells off => finLoad P t n ag cells off []
    | .pst τ x off =>
      if off = 0 ∧ n = τ.size ∧ ag = τ.isAgg then Out.pure (.val τ x) else finLoad P t n ag (cellsV τ x) off []
    | .pel o i sz off => match look o with
      | some (.arr _ τ xs _) =>
        if sz ≠ τ.size then none else if off = 0 ∧ n = τ.size ∧ ag = τ.isAgg then Out.ifs (.val τ (xs.getD i τ.zero)) [decide (i < xs.length)]
        else finLoad P t n ag (cellsV τ (xs.getD i τ.zero)) off [decide (i < xs.length)]
      | some (.row _ _ sz' cells) => if sz ≠ sz' then none else finLoad P t n ag cells (i * sz + off) []
      | _ => none
    | _ => none
  | _, _ => none

def setCells (cs : List A) (off : Nat) (new : List A) : Option (List A) :=
  if off + new.length ≤ cs.length then some (cs.take off ++ new ++ cs.drop (off + new.length)) else none

def storeK (P : Program) (look : Nat → Option O) (t : TypeId) (addr x : A) : Option Out :=
  match sizeT P t with
  | none => none
  | some n =>
    if x.cells.length = n ∧ x.cells.all A.one = true then
      match addr with
      | .pbox o off => match look o with
        | some (.box u cells false) => match setCells cells off x.cells with
          | some cs => some ⟨.undef, [(o, some (.box u cs false))], [], []⟩
          | none => none
        | _ => none
      | .pel o i sz off => match look o with
        | some (.arr e τ xs false) =>
          if sz ≠ τ.size then none else if off = 0 ∧ n = τ.size then
            match toVal look τ x with
            | some (y, f) => if hasN f o then none else some ⟨.undef, freezeU look f ++ [(o, some (.arr e τ (xs.set i y) false))], [decide (i < xs.length)], []⟩
            | none => none
          else match setCells (cellsV τ (xs.getD i τ.zero)) off x.cells with
            | some cs => match pack look τ cs with
              | some (y, [], f) => if hasN f o then none else some ⟨.undef, freezeU look f ++ [(o, some (.arr e τ (xs.set i y) false))], [decide (i < xs.length)], []⟩
              | _ => none
            | none => none
        | some (.row e k sz' cells) => if sz ≠ sz' ∨ n = 0 then none else match setCells cells (i * sz + off) x.cells with
          | some cs => some ⟨.undef, [(o, some (.row e k sz' cs))], [], []⟩
          | none => none
        | _ => none
      | _ => none
    else none

def fieldOff (P : Program) (t : TypeId) (f : Nat) : Option (Nat × TypeId) :=
  match P.underlying t with
  | some (.struct fs) => (fs[f]?).map fun x => (x.offset, x.type)
  | _ => none

/-- parts of a literal: their values of one type, in order -/
def partVals (look : Nat → Option O) (τ : Ty) : Nat → List Nat → List A → Option (List τ.Den × List Nat)
  | _, [], [] => some ([], [])
  | i, j :: js, a :: as =>
    if i = j then
      match toVal look τ a, partVals look τ (i + 1) js as with
      | some (x, f), some (xs, g) => some (x :: xs, f ++ g)
      | _, _ => none
    else none
  | _, _, _ => none

def rowCells (size : Nat) : Nat → List Nat → List A → Option (List A)
  | _, [], [] => some []
  | i, j :: js, a :: as =>
    if i = j ∧ a.cells.length = size ∧ a.cells.all A.one = true then
      match rowCells size (i + 1) js as with
      | some cs => some (a.cells ++ cs)
      | none => none
    else none
  | _, _, _ => none

/-- a literal of a slice whose parts stay apart -/
def rowK (fid : Nat) (e : TypeId) (n size : Nat) (js : List Nat) (xs : List A) : Option Out :=
  if xs.length = n then match rowCells size 0 js xs with
    | some cs => some ⟨.ref fid, [(fid, some (.row e n size cs))], [], []⟩
    | none => none
  else none

/-- fields of a literal -/
def fillA (place : Nat → Option (Nat × Nat)) (cs : List A) : List Nat → List A → Option (List A)
  | [], [] => some cs
  | j :: js, a :: as =>
    match place j with
    | some (off, n) => if n = a.cells.length ∧ a.cells.all A.one = true then
        match setCells cs off a.cells with
        | some cs => fillA place cs js as
        | none => none
      else none
    | none => none
  | _, _ => none

mutual
/-- a value as the callee sees it -/
def trA (look : Nat → Option O) (ρ : List Nat) : A → Option A
  | .ref o => match idxN ρ o with
    | some j => some (.ref j)
    | none => match look o with
      | some (.arr _ τ xs _) => some (.val (.slice τ) xs)
      | _ => none
  | .pbox o off => match idxN ρ o with
    | some j => some (.pbox j off)
    | none => match look o with
      | some (.box _ cells _) => match idsL cells with
        | [] => some (.pcs cells off)
        | _ => none
      | _ => none
  | .mapr o => (idxN ρ o).map .mapr
  | .pel .. => none
  | .glob _ => none
  | .undef => some .undef
  | .val τ x => some (.val τ x)
  | .nil => some .nil
  | .emp => some .emp
  | .pst τ x off => some (.pst τ x off)
  | .pcs cs off => (trL look ρ cs).map (.pcs · off)
  | .clo f cs => (trL look ρ cs).map (.clo f)
  | .agg cs => (trL look ρ cs).map .agg
  | .tup cs => (trL look ρ cs).map .tup
def trL (look : Nat → Option O) (ρ : List Nat) : List A → Option (List A)
  | [] => some []
  | a :: l => match trA look ρ a, trL look ρ l with
    | some a, some l => some (a :: l)
    | _, _ => none
end

def trO (look : Nat → Option O) (ρ : List Nat) (o : Nat) : Option O :=
  match look o with
  | some (.arr e τ xs false) => some (.arr e τ xs false)
  | some (.box t cs false) => (trL look ρ cs).map fun cs => .box t cs false
  | some (.map κ ν es) => some (.map κ ν es)
  | some (.row e n sz cs) => (trL look ρ cs).map fun cs => .row e n sz cs
  | _ => none

def mapO (f : Nat → Option O) : List Nat → Option (List O)
  | [] => some []
  | o :: l => match f o, mapO f l with
    | some x, some l => some (x :: l)
    | _, _ => none

mutual
/-- renaming of objects -/
def renA (f : Nat → Option Nat) : A → A
  | .ref o => match f o with | some j => .ref j | none => .undef
  | .pel o i sz off => match f o with | some j => .pel j i sz off | none => .undef
  | .pbox o off => match f o with | some j => .pbox j off | none => .undef
  | .mapr o => match f o with | some j => .mapr j | none => .undef
  | .undef => .undef
  | .val τ x => .val τ x
  | .nil => .nil
  | .emp => .emp
  | .pst τ x off => .pst τ x off
  | .glob g => .glob g
  | .pcs cs off => .pcs (renL f cs) off
  | .clo g cs => .clo g (renL f cs)
  | .agg cs => .agg (renL f cs)
  | .tup cs => .tup (renL f cs)
def renL (f : Nat → Option Nat) : List A → List A
  | [] => []
  | a :: m => renA f a :: renL f m
end

def renO (f : Nat → Option Nat) : O → O
  | .box t cs z => .box t (renL f cs) z
  | .row e n sz cs => .row e n sz (renL f cs)
  | x => x

/-- out of the callee: numbers below the parameters' count are the caller's, the others are new -/
def bkN (ρ : List Nat) (fid : Nat) (j : Nat) : Nat := match ρ[j]? with
  | some o => o
  | none => fid + (j - ρ.length)
def bkF (ρ : List Nat) (fid : Nat) (j : Nat) : Option Nat := some (bkN ρ fid j)

mutual
def A.flat : A → Bool
  | .val τ _ => τ.flat
  | .nil => true
  | .emp => true
  | .ref _ => true
  | .undef => true
  | .pbox _ _ => true
  | .mapr _ => true
  | .agg cs => flatL cs
  | .tup cs => flatL cs
  | _ => false
def flatL : List A → Bool
  | [] => true
  | a :: l => a.flat && flatL l
end

def O.flat : O → Bool
  | .arr _ τ _ f => τ.flat && !f
  | .box _ cs f => flatL cs && !f
  | .map κ ν _ => κ.flat && ν.flat
  | .row _ _ _ cs => flatL cs

def parU (f : Nat → Option Nat) (fin : List (Nat × O)) : Nat → List Nat → List (Nat × Option O)
  | _, [] => []
  | j, o :: l => (o, (lookO fin j).map (renO f)) :: parU f fin (j + 1) l

def newU (m fid : Nat) (f : Nat → Option Nat) : List (Nat × O) → List (Nat × Option O)
  | [] => []
  | (j, x) :: l => if j < m then newU m fid f l else (fid + (j - m), some (renO f x)) :: newU m fid f l

def finOk (m : Nat) : List (Nat × O) → Bool
  | [] => true
  | (j, x) :: l => decide (j < m + 16) && !hasN (l.map (·.1)) j && x.ids.all (fun k => decide (k < m + 16)) && finOk m l

def nodupN : List Nat → Bool
  | [] => true
  | a :: l => !hasN l a && nodupN l

def packArgs (P : Program) : List TypeId → List A → List A
  | t :: ts, a :: as => (match tyOf P 9 t with
      | some τ => match toVal noLook τ a with
        | some (x, []) => .val τ x
        | _ => a
      | none => a) :: packArgs P ts as
  | [], as => as
  | _, [] => []

def idsO (look : Nat → Option O) : List Nat → List Nat
  | [] => []
  | o :: l => (match look o with | some x => x.ids | none => []) ++ idsO look l

structure RunOut where
  res : A
  fin : List (Nat × O)
  props : List Bool
  calls : List CallOb

abbrev Runner := FuncId → List A → List O → List Scr → Option RunOut

/-- the objects that a call may turn: all that it is handed and that are not frozen -/
def autoRef (look : Nat → Option O) : List Nat → List Nat → List Nat
  | [], acc => acc
  | o :: l, acc => match look o with
    | some x => if O.frzB x || hasN acc o then autoRef look l acc else autoRef look l (acc ++ [o])
    | none => autoRef look l acc

def callCore (P : Program) (look : Nat → Option O) (fid : Nat) (pk : Bool) (byref : List Nat) (ro : List A → List O → Option (RunOut × Bool)) (f : FuncId) (args : List A) : Option Out :=
  match trL look byref args, mapO (trO look byref) byref, P.funcs[f]? with
  | some args', some objs, some fn =>
    match ro (if pk then packArgs P fn.params.toList args' else args') objs with
    | some (r, fz) =>
      if nodupN byref && finOk byref.length r.fin && r.res.ids.all (fun k => decide (k < byref.length + 16)) && (fz || (r.res.flat && r.fin.all (·.2.flat))) then
        some ⟨renA (bkF byref fid) r.res, (if fz then freezeU look ((idsL args ++ idsO look byref).filter fun o => !hasN byref o) else []) ++ (parU (bkF byref fid) r.fin 0 byref ++ newU byref.length fid (bkF byref fid) r.fin), r.props, r.calls⟩
      else none
    | none => none
  | _, _, _ => none

def callK (P : Program) (run : Runner) (look : Nat → Option O) (fid : Nat) (cs : Option CallScript) (f : FuncId) (args : List A) : Option Out :=
  match cs with
  | some (.con byref res fin fz pk) => callCore P look fid pk byref (fun args objs => some (⟨res, fin, [], [⟨f, args, objs, res, fin⟩]⟩, fz)) f args
  | some (.inl byref fz scr) => callCore P look fid true byref (fun args objs => (run f args objs scr).map (·, fz)) f args
  | none => callCore P look fid true (autoRef look (idsL args ++ idsO look (idsL args)) []) (fun args objs => (run f args objs []).map (·, true)) f args

def hiK (len : Nat) : Option A → Option (Nat × List Bool)
  | none => some (len, [])
  | some (.val (.int _) h) => some (h.toNat, [decide (0 ≤ h), decide (h ≤ len)])
  | _ => none

def loK (h : Nat) (ps : List Bool) : Option A → Option (Nat × Nat × List Bool)
  | none => some (0, h, ps)
  | some (.val (.int _) l) => some (l.toNat, h, ps ++ [decide (0 ≤ l), decide (l ≤ h)])
  | _ => none

def sliceBoundsK (len : Nat) (lo hi : Option A) : Option (Nat × Nat × List Bool) :=
  match hiK len hi with
  | none => none
  | some (h, ps) => loK h ps lo

def opt1 : Option Operand → List A → Option (Option A × List A)
  | none, l => some (none, l)
  | some _, a :: l => some (some a, l)
  | some _, [] => none

/-- a row cut short: from its beginning on, as the call's own -/
def headK (P : Program) (look : Nat → Option O) (fid : Nat) (t : TypeId) (x : A) (hi : Option A) : Option Out :=
  match x with
  | .nil => match elemT P t, hi with
    | some u, some (.val (.int _) h) => if (sizeT P u).isSome then Out.ifs .nil [decide (h = 0)] else none
    | _, _ => none
  | .ref o => match elemT P t, look o, hi with
    | some u, some (.arr e τ xs false), some (.val (.int _) h) => if sizeT P u = some τ.size then some ⟨.ref fid, [(o, none), (fid, some (.arr e τ (xs.take h.toNat) false))], [decide (0 ≤ h), decide (h ≤ xs.length)], []⟩ else none
    | _, _, _ => none
  | _ => none

def cutK (P : Program) (look : Nat → Option O) (t : TypeId) (x : A) (lo hi : Option A) : Option Out :=
  match x with
  | .val .str s => match P.underlying t with
    | some .string => match sliceBoundsK s.size lo hi with
      | some (l, h, ps) => Out.ifs (.val .str (s.extract l h)) ps
      | none => none
    | _ => none
  | .val (.slice e) xs => match elemT P t with
    | some u => if sizeT P u = some e.size then match sliceBoundsK xs.length lo hi with
      | some (l, h, ps) => Out.ifs (.val (.slice e) ((xs.take h).drop l)) ps
      | none => none
      else none
    | none => none
  | .ref o => match elemT P t, look o with
    | some u, some (.arr _ e xs _) => if sizeT P u = some e.size then match sliceBoundsK xs.length lo hi with
      | some (l, h, ps) => some ⟨.val (.slice e) ((xs.take h).drop l), freezeU look [o], ps, []⟩
      | none => none
      else none
    | _, _ => none
  | _ => none

def funK (look : Nat → Option O) (f : FuncId) (caps : List A) : Option Out :=
  match trL look [] caps with
  | some cs => some ⟨.clo f cs, freezeU look (idsL caps), [], []⟩
  | none => none

def appendK (P : Program) (look : Nat → Option O) (fid : Nat) (t : TypeId) (s x : A) : Option Out :=
  match elemT P t with
  | some e => match tyOf P 9 e, bytesT P e, zeroCells P e with
    | some τ, some b, some zs => if sizeT P e = some τ.size ∧ 0 < τ.size ∧ 0 < b ∧ zs.length = τ.size then match elems look τ x with
      | some ys => match s with
        | .nil => some ⟨.ref fid, [(fid, some (.arr e τ ys false))], [decide (ys.length * b ≤ 140737488355328)], []⟩
        | .ref o => match look o with
          | some (.arr e' τ' xs false) => if e = e' then match castDen (τ := .slice τ') (τ' := .slice τ) xs with
            | some xs => some ⟨.ref fid, [(o, none), (fid, some (.arr e τ (xs ++ ys) false))], [decide ((xs.length + ys.length) * b ≤ 140737488355328)], []⟩
            | none => none
            else none
          | _ => none
        | _ => none
      | none => none
      else none
    | _, _, _ => none
  | none => none

/-- append(nil, make(.., n)...) -/
def growK (P : Program) (fid : Nat) (t t' : TypeId) (s x : A) : Option Out :=
  match elemT P t, P.underlying t', s, x with
  | some e, some (.int .i64), .nil, .val (.int .i64) n => match tyOf P 9 e, bytesT P e with
    | some τ, some b => if sizeT P e = some τ.size ∧ 0 < τ.size ∧ 0 < b ∧ zeroOk P e τ = true then some ⟨.ref fid, [(fid, some (.arr e τ (List.replicate n.toNat τ.zero) false))], [decide (0 < n), decide (n * b ≤ 140737488355328)], []⟩ else none
    | _, _ => none
  | _, _, _, _ => none

def builtinK (P : Program) (look : Nat → Option O) (fid : Nat) (b : Builtin) (ts : List TypeId) (xs : List A) : Option Out :=
  match b, ts, xs with
  | .len, [t], [x] => match lenK P look t x with
    | some n => Out.pure (.val (.int .i64) (n : Int))
    | none => none
  | .append, [t, t'], [s, x] => if t = t' then appendK P look fid t s x else growK P fid t t' s x
  | .cap, [t], [.nil] => match P.underlying t with
    | some (.slice _) => Out.pure (.val (.int .i64) (0 : Int))
    | _ => none
  | .min, _, [.val (.int k) a, .val (.int k') b] => if k = k' then Out.pure (.val (.int k) (if b < a then b else a)) else none
  | .max, _, [.val (.int k) a, .val (.int k') b] => if k = k' then Out.pure (.val (.int k) (if b > a then b else a)) else none
  | _, _, _ => none

/-! ### Maps -/
def keyB : (κ : Ty) → κ.Den → κ.Den → Bool
  | .int _, x, y => decide ((x : Int) = y)
  | .str, x, y => decide ((x : ByteArray) = y)
  | .bool, x, y => decide ((x : Bool) = y)
  | _, _, _ => false

def keyOk : Ty → Bool
  | .int _ | .str | .bool => true
  | _ => false

def mapGet (κ ν : Ty) : List (κ.Den × ν.Den) → κ.Den → Option ν.Den
  | [], _ => none
  | e :: l, q => if keyB κ q e.1 then some e.2 else mapGet κ ν l q
def mapIdx (κ ν : Ty) : List (κ.Den × ν.Den) → κ.Den → Nat
  | [], _ => 0
  | e :: l, q => if keyB κ q e.1 then 0 else mapIdx κ ν l q + 1
def mapSet (κ ν : Ty) : List (κ.Den × ν.Den) → κ.Den → ν.Den → List (κ.Den × ν.Den)
  | [], q, v => [(q, v)]
  | e :: l, q, v => if keyB κ q e.1 then (q, v) :: l else e :: mapSet κ ν l q v

/-- a map of these types? -/
def zeroOne (P : Program) (t : TypeId) : Bool := match P.info? t with
  | some i => match i.zero with
    | some z => isOne z
    | none => false
  | none => false

def mapT (P : Program) (t : TypeId) (κ ν : Ty) : Bool :=
  match P.underlying t with
  | some (.map k v) => keyOk κ && !ν.isAgg && decide (tyOf P 9 k = some κ) && decide (tyOf P 9 v = some ν) && zeroOk P v ν && zeroOne P v
  | _ => false

def lookK (P : Program) (look : Nat → Option O) (t : TypeId) (o : Nat) (y : A) (ok : Bool) : Option Out :=
  match look o with
  | some (.map κ ν es) => if mapT P t κ ν then match toVal noLook κ y with
    | some (q, []) => if ok then Out.pure (.tup [.val ν ((mapGet κ ν es q).getD ν.zero), .val .bool (mapGet κ ν es q).isSome]) else Out.pure (.val ν ((mapGet κ ν es q).getD ν.zero))
    | _ => none
    else none
  | _ => none

def setK (P : Program) (look : Nat → Option O) (t : TypeId) (o : Nat) (y z : A) : Option Out :=
  match look o with
  | some (.map κ ν es) => if mapT P t κ ν then match toVal noLook κ y, toVal noLook ν z with
    | some (q, []), some (x, []) => some ⟨.undef, [(o, some (.map κ ν (mapSet κ ν es q x)))], [], []⟩
    | _, _ => none
    else none
  | _ => none

def entryK (P : Program) (look : Nat → Option O) (t : TypeId) (o : Nat) (y : A) : Option Out :=
  match look o with
  | some (.map κ ν es) => if mapT P t κ ν then match toVal noLook κ y with
    | some (q, []) => some ⟨.tup [.val ν ((mapGet κ ν es q).getD ν.zero), .val (.int .i64) (mapIdx κ ν es q : Int)], [(o, some (.map κ ν (mapSet κ ν es q ((mapGet κ ν es q).getD ν.zero))))], [], []⟩
    | _ => none
    else none
  | _ => none

def stampK (P : Program) (look : Nat → Option O) (t : TypeId) (o : Nat) (n : Int) (z : A) : Option Out :=
  match look o with
  | some (.map κ ν es) => if mapT P t κ ν then match toVal noLook ν z with
    | some (x, []) => some ⟨.undef, [(o, some (.map κ ν (es.modify n.toNat fun e => (e.1, x))))], [decide (0 ≤ n), decide (n < es.length)], []⟩
    | _ => none
    else none
  | _ => none

/-- One operation on the values of its operands. -/
def opK (P : Program) (run : Runner) (look : Nat → Option O) (fid : Nat) (cs : Option CallScript) (dec : Option Bool) (op : Op) (xs : List A) : Option Out :=
  match op, xs with
  | .move _, [x] => Out.pure x
  | .assign _, [x] => Out.pure x
  | .pick _ _ _, [c, a, b] => match c with
    | .val .bool c => match a, b with
      | .val .bool a, .val .bool b => Out.pure (.val .bool (if c then a else b))
      | _, _ => match dec with
        | some d => Out.ifs (if d then a else b) [decide (c = d)]
        | none => Out.pure (if c then a else b)
    | _ => none
  | .alloc t, [] => match zeroCells P t with
    | some cs => some ⟨.pbox fid 0, [(fid, some (.box t cs false))], [], []⟩
    | none => none
  | .box t _, [x] => if sizeT P t = some x.cells.length ∧ x.cells.all A.one = true then some ⟨.pbox fid 0, [(fid, some (.box t x.cells false))], [], []⟩ else none
  | .build t ps, xs => match P.underlying t, zeroCells P t with
    | some (.struct fs), some cs => match fs.toList.mapM (fun f => (P.info? f.type).map fun i => (f.offset, i.size)) with
      | some places => match fillA (places.toArray[·]?) cs (ps.toList.map (·.1)) xs with
        | some cs => Out.pure (.agg cs)
        | none => none
      | none => none
    | some (.array _ e), some cs => match sizeT P e with
      | some n => match fillA (fun i => some (i * n, n)) cs (ps.toList.map (·.1)) xs with
        | some cs => Out.pure (.agg cs)
        | none => none
      | none => none
    | _, _ => none
  | .buildSlice t n ps, xs => match elemT P t with
    | some e => match tyOf P 9 e with
      | some τ => if n * τ.size ≤ 16777216 ∧ 0 < τ.size ∧ sizeT P e = some τ.size ∧ (zeroCells P e).isSome = true then
        match partVals look τ 0 (ps.toList.map (·.1)) xs with
        | some (ys, f) => if ys.length = n then (if f.isEmpty || dec == some true then some ⟨.ref fid, freezeU look f ++ [(fid, some (.arr e τ ys false))], [], []⟩ else rowK fid e n τ.size (ps.toList.map (·.1)) xs) else none
        | none => rowK fid e n τ.size (ps.toList.map (·.1)) xs
        else none
      | none => none
    | none => none
  | .load t _, [x] => loadK P look t x
  | .store t _ _, [x, y] => storeK P look t x y
  | .nilCheck _, [x] => match x with
    | .pbox _ _ | .pcs _ _ | .pst _ _ _ | .pel _ _ _ _ | .clo _ _ => Out.pure x
    | _ => none
  | .binOp op t _ _ _, [x, y] => binK P look op t x y
  | .unOp op _ _, [x] => unK op x
  | .convert s d _, [x] => match P.underlying s, P.underlying d, x with
    | some (.int _), some (.int k), .val (.int _) n => Out.pure (.val (.int k) (k.wrap n))
    | some .string, some .string, .val .str s => Out.pure (.val .str s)
    | some (.slice e), some .string, x => match P.underlying e with
      | some (.int .u8) => match elems look (.int .u8) x with
        | some bs => Out.pure (.val .str (strOfNums bs))
        | none => none
      | _ => none
    | _, _, _ => none
  | .makeFunc (.func f) first _, caps => if first.isEmpty = true then funK look f caps else none
  | .makeMap t none, [] => match P.underlying t with
    | some (.map k v) => match tyOf P 9 k, tyOf P 9 v with
      | some κ, some ν => some ⟨.mapr fid, [(fid, some (.map κ ν []))], [], []⟩
      | _, _ => none
    | _ => none
  | .makeSlice t _ _, [.val (.int .i64) n, .val (.int .i64) c] => match elemT P t with
    | some e => match tyOf P 9 e, bytesT P e with
      | some τ, some b => if sizeT P e = some τ.size ∧ 0 < τ.size ∧ 0 < b ∧ zeroOk P e τ = true then some ⟨.ref fid, [(fid, some (.arr e τ (List.replicate n.toNat τ.zero) false))], [decide (0 ≤ n), decide (n ≤ c), decide (c * b ≤ 140737488355328)], []⟩ else none
      | _, _ => none
    | none => none
  | .slice t _ lo hi none, x :: ys => if dec = some true then (match lo, opt1 hi ys with
    | none, some (hi, []) => headK P look fid t x hi
    | _, _ => none) else match opt1 lo ys with
    | some (lo, ys) => match opt1 hi ys with
      | some (hi, []) => cutK P look t x lo hi
      | _ => none
    | none => none
  | .fieldAddr t _ f, [x] => match fieldOff P t f with
    | some (off, u) => match sizeT P u with
      | some (_ + 1) => match x with
        | .pbox o k => Out.pure (.pbox o (k + off))
        | .pcs cs k => Out.pure (.pcs cs (k + off))
        | .pst τ x k => Out.pure (.pst τ x (k + off))
        | .pel o i sz k => Out.pure (.pel o i sz (k + off))
        | _ => none
      | _ => none
    | none => none
  | .field t _ f, [x] => match fieldOff P t f with
    | some (off, u) => match sizeT P u, kindT P u, x.isAgg with
      | some n, some ag, true => finLoad P u n ag x.cells off []
      | _, _, _ => none
    | none => none
  | .indexAddr t _ _, [x, .val (.int k) i] => match elemT P t with
    | some e => match x with
      | .val (.slice τ) xs => if sizeT P e = some τ.size then Out.ifs (.pst τ (xs.getD i.toNat τ.zero) 0) [decide (0 ≤ i), decide (i < xs.length)] else none
      | .ref o => match look o with
        | some (.arr _ τ xs _) => if sizeT P e = some τ.size then Out.ifs (.pel o i.toNat τ.size 0) [decide (0 ≤ i), decide (i < xs.length)] else none
        | some (.row _ k sz _) => if sizeT P e = some sz then Out.ifs (.pel o i.toNat sz 0) [decide (0 ≤ i), decide (i < k)] else none
        | _ => none
      | _ => none
    | none => none
  | .index t _ _, [.val .str s, .val (.int k) i] => match P.underlying t with
    | some .string => Out.ifs (.val (.int .u8) ((s.data.toList.getD i.toNat 0).toNat : Int)) [decide (0 ≤ i), decide (i < s.size)]
    | _ => none
  | .lookup t _ _ ok, [.mapr o, y] => lookK P look t o y ok
  | .mapUpdate t _ _ _, [.mapr o, y, z] => setK P look t o y z
  | .insert t _ _ _, [.mapr o, y, z] => setK P look t o y z
  | .mapEntry t _ _, [.mapr o, y] => entryK P look t o y
  | .entryStore t _ _ _, [.mapr o, .val (.int .i64) n, z] => stampK P look t o n z
  | .extract _ i, [.tup vs] => match vs[i]? with
    | some v => Out.pure v
    | none => none
  | .call c, xs => match c.callee with
    | .builtin b => builtinK P look fid b c.argTypes.toList xs
    | .value _ => match xs with
      | .clo f caps :: args => callK P run look fid cs f (args ++ caps)
      | _ => none
    | _ => none
  | _, _ => none

def updIds : List (Nat × Option O) → List Nat
  | [] => []
  | (o, some x) :: l => o :: (x.ids ++ updIds l)
  | (o, none) :: l => o :: updIds l

/-! ### A region -/
def evA (env : List A) : Operand → A
  | .tmp t => env.getD t .undef
  | .const v => constA v
  | .global g => .glob g
  | .func f => .clo f []

def closeIds (look : Nat → Option O) (xs : List A) : List Nat :=
  let i1 := idsL xs
  i1 ++ idsO look i1

def mask (look : Nat → Option O) (ids : List Nat) : Nat → Option O := fun o => if hasN ids o then look o else none

def lookI {α : Type} : List (Nat × α) → Nat → Option α
  | [], _ => none
  | (k, x) :: l, i => if k = i then some x else lookI l i

/-- what an operation reads and writes -/
structure FP where
  rt : List Nat
  ro : List Nat
  wt : Option Nat
  wo : List Nat

def opTmps (o : Oper) : List Nat := o.op.operands.toList.filterMap fun | .tmp t => some t | _ => none

structure RegOut where
  st : St
  props : List Bool
  calls : List CallOb
  fps : List FP

def setE (env : List A) (d : Option Tmp) (v : A) : List A := match d with
  | some d => env.set d v
  | none => env

/-- is the operation wanted? its guard's value, as told; what must hold -/
def wantedA (ops : Array Oper) (env : List A) (o : Oper) (told : Option Bool) : Option (Bool × List Bool × List Nat) :=
  match o.guard with
  | none => some (true, [], [])
  | some (j, want) => match (ops[j]?).bind (·.dst) with
    | some d => match env.getD d .undef with
      | .val .bool b => match told with
        | some t => some (t == want, [decide (b = t)], [d])
        | none => some (b == want, [], [d])
      | .tup [] => some (false, [], [d])
      | _ => none
    | none => none

def stepOp (P : Program) (run : Runner) (ops : Array Oper) (scr : RegScr) (fid i : Nat) (o : Oper) (st : St) : Option (St × List Bool × List CallOb × FP) :=
  match wantedA ops st.env o (lookI scr.dec i) with
  | none => none
  | some (false, ps, rt) => some ({ st with env := setE st.env o.dst (.tup []) }, ps, [], ⟨rt, [], o.dst, []⟩)
  | some (true, ps, rt) =>
    let xs := o.op.operands.toList.map (evA st.env)
    let look := lookO st.objs
    let ids := closeIds look xs
    match opK P run (mask look ids) fid (lookI scr.calls i) (lookI scr.dec i) o.op xs with
    | none => none
    | some r =>
      if (r.v.ids ++ updIds r.upd).all (fun k => hasN ids k || (decide (fid ≤ k) && decide (k < fid + 16))) then
        some ({ st with env := setE st.env o.dst r.v, objs := putO st.objs r.upd }, ps ++ r.props, r.calls, ⟨opTmps o ++ rt, ids, o.dst, r.upd.map (·.1)⟩)
      else none

def regGo (P : Program) (run : Runner) (ops : Array Oper) (scr : RegScr) (base : Nat) : Nat → List Oper → St → Option RegOut
  | _, [], st => some ⟨st, [], [], []⟩
  | i, o :: l, st =>
    match stepOp P run ops scr (base + 16 * i) i o st with
    | none => none
    | some (st, ps, cs, fp) => match regGo P run ops scr base (i + 1) l st with
      | none => none
      | some r => some ⟨r.st, ps ++ r.props, cs ++ r.calls, fp :: r.fps⟩

def meets (l m : List Nat) : Bool := l.any (hasN m)

/-- does what the one writes touch what the other reads or writes? -/
def clash1 (x y : FP) : Bool :=
  (match x.wt with | some d => hasN y.rt d || y.wt == some d | none => false) || meets x.wo y.ro || meets x.wo y.wo

def clash (x y : FP) : Bool := clash1 x y || clash1 y x

/-- for each operation: the mask of those that must come before it -/
def befMask (acc : List Nat) (m : Nat) : List Edge → Nat
  | [] => m
  | e :: l => befMask acc (if Region.binds .any e then m ||| 2 ^ e.on ||| acc.getD e.on 0 else m) l
def befGo (acc : List Nat) : List Oper → List Nat
  | [] => acc
  | o :: l => befGo (acc ++ [befMask acc 0 o.after.toList]) l

def okPairs (m j : Nat) (y : FP) : Nat → List FP → Bool
  | _, [] => true
  | i, x :: l => (decide (j ≤ i) || !clash x y || m.testBit i) && okPairs m j y (i + 1) l
def orderOk (bef : List Nat) (fps : List FP) : Nat → List FP → Bool
  | _, [] => true
  | j, y :: l => okPairs (bef.getD j 0) j y 0 fps && orderOk bef fps (j + 1) l

def edgesBack (ops : List Oper) : Nat → Bool
  | i => match ops with
    | [] => true
    | o :: l => (o.after.toList.all fun e => !Region.binds .any e || decide (e.on < i)) && edgesBack l (i + 1)

def regionK (P : Program) (run : Runner) (scr : RegScr) (ops : Array Oper) (draw : Bool) (st : St) : Option RegOut :=
  match regGo P run ops scr st.next 0 ops.toList st with
  | none => none
  | some r =>
    if !draw || (edgesBack ops.toList 0 && orderOk (befGo [] ops.toList) r.fps 0 r.fps) then
      some { r with st := { r.st with next := st.next + 16 * ops.size } }
    else none

/-! ### The small steps between regions -/
def numbered : Nat → List O → List (Nat × O)
  | _, [] => []
  | i, x :: l => (i, x) :: numbered (i + 1) l

structure Cfg where
  todo : List Item
  st : St

structure ExecOut where
  cfg : Cfg
  props : List Bool
  calls : List CallOb

def keepE (live : List Nat) (objs : List (Nat × Nat)) : Nat → List A → List A
  | _, [] => []
  | t, a :: l => (if hasN live t then renA (lookI objs) a else .undef) :: keepE live objs (t + 1) l

def keepO (look : Nat → Option O) (all : List (Nat × Nat)) : List (Nat × Nat) → Option (List (Nat × O))
  | [] => some []
  | (o, j) :: l => match look o, keepO look all l with
    | some x, some r => some ((j, renO (lookI all) x) :: r)
    | _, _ => none

def maxN : List (Nat × Nat) → Nat → Nat
  | [], m => m
  | (_, j) :: l, m => maxN l (if m ≤ j then j + 1 else m)

/-- keeps the named variables and objects alone, the objects under new numbers; the parameters' objects keep theirs -/
def canonSt (live : List Nat) (objs : List (Nat × Nat)) (st : St) : Option St :=
  if nodupN (objs.map (·.1)) && nodupN (objs.map (·.2)) && objs.all (fun (o, j) => o = j || (decide (st.np ≤ o) && decide (st.np ≤ j))) then
    match keepO (lookO st.objs) objs objs with
    | some os => some ⟨keepE live objs 0 st.env, os, maxN objs st.np, st.np⟩
    | none => none
  else none

/-- a nil slice as an empty row of the call's own -/
def adoptSt : List (Nat × TypeId × Ty) → St → Option St
  | [], st => some st
  | (t, e, τ) :: l, st => match st.env.getD t .undef with
    | .nil => if 0 < τ.size then adoptSt l { st with env := st.env.set t (.ref st.next), objs := (st.next, .arr e τ [] false) :: st.objs, next := st.next + 1 } else none
    | _ => adoptSt l st

/-- variables made data; rows of the call's own that they lead to are frozen -/
def dataSt : List (Nat × Ty) → St → Option St
  | [], st => some st
  | (t, τ) :: l, st => match toVal (lookO st.objs) τ (st.env.getD t .undef) with
    | some (x, f) => dataSt l { st with env := st.env.set t (.val τ x), objs := putO st.objs (freezeU (lookO st.objs) f) }
    | none => none

def fixSt : Fix → St → Option St
  | .nil t e τ, st => adoptSt [(t, e, τ)] st
  | .data t τ, st => dataSt [(t, τ)] st
  | .cnil o i e τ, st => match lookO st.objs o with
    | some (.box u cs false) => match cs.getD i .undef with
      | .nil => if 0 < τ.size then some { st with objs := putO st.objs [(st.next, some (.arr e τ [] false)), (o, some (.box u (cs.set i (.ref st.next)) false))], next := st.next + 1 } else none
      | _ => none
    | _ => none
  | .cdata o i τ, st => match lookO st.objs o with
    | some (.box u cs false) => match toVal (lookO st.objs) τ (cs.getD i .undef) with
      | some (x, f) => if hasN f o || τ.isAgg || decide (cs.length ≤ i) then none else some { st with objs := putO st.objs (freezeU (lookO st.objs) f ++ [(o, some (.box u (cs.set i (.val τ x)) false))]) }
      | none => none
    | _ => none

def tidySt : List Fix → St → Option St
  | [], st => some st
  | f :: l, st => match fixSt f st with
    | some st => tidySt l st
    | none => none

def adoptAt (id : Nat) : List Scr → Option (List Fix × List Scr)
  | .adopt id' fx :: s => if id' = id then some (fx, s) else none
  | _ => none

def execN (P : Program) (run : Runner) : Nat → List Scr → Cfg → Option ExecOut
  | 0, _, _ => none
  | n + 1, s, ⟨todo, st⟩ =>
    match todo with
    | [] => match s with
      | .fin fx :: _ => match tidySt fx st with
        | some st => some ⟨⟨[], st⟩, [], []⟩
        | none => none
      | _ => some ⟨⟨[], st⟩, [], []⟩
    | .code .ret :: k => match s with
      | .fin fx :: _ => match tidySt fx st with
        | some st => some ⟨⟨.code .ret :: k, st⟩, [], []⟩
        | none => none
      | _ => some ⟨⟨.code .ret :: k, st⟩, [], []⟩
    | .code .skip :: k => execN P run n s ⟨k, st⟩
    | .inBlock _ :: k => execN P run n s ⟨k, st⟩
    | .code (.seq a b) :: k => execN P run n s ⟨.code a :: .code b :: k, st⟩
    | .code (.block id c) :: k => execN P run n s ⟨.code c :: .inBlock id :: k, st⟩
    | .code (.loop c) :: k => execN P run n s ⟨.inLoop c :: k, st⟩
    | .inLoop c :: k => match s with
      | .stop fx live objs :: _ => match tidySt fx st with
        | some st => match canonSt live objs st with
          | some st => some ⟨⟨.inLoop c :: k, st⟩, [], []⟩
          | none => none
        | none => none
      | .go :: s => execN P run n s ⟨.code c :: .inLoop c :: k, st⟩
      | s => execN P run n s ⟨.code c :: .inLoop c :: k, st⟩
    | .code (.exit id) :: k => match exitTo id k with
      | some k => execN P run n s ⟨k, st⟩
      | none => none
    | .code (.cond c a b) :: k => match evA st.env c with
      | .val .bool x => match s with
        | .cond d :: s => match execN P run n s ⟨.code (if d then a else b) :: k, st⟩ with
          | some r => some { r with props := decide (x = d) :: r.props }
          | none => none
        | s => execN P run n s ⟨.code (if x then a else b) :: k, st⟩
      | _ => none
    | .code (.region id ops draw) :: k => match adoptAt id s with
     | some (fx, s) => match tidySt fx st with
      | some st => execN P run n s ⟨.code (.region id ops draw) :: k, st⟩
      | none => none
     | none =>
      let (sc, s) : RegScr × List Scr := match s with
        | .reg id' dec calls :: s' => if id' = id then (⟨dec, calls⟩, s') else (⟨[], []⟩, .reg id' dec calls :: s')
        | s => (⟨[], []⟩, s)
      match regionK P run sc ops draw st with
      | none => none
      | some r => match execN P run n s ⟨k, r.st⟩ with
        | some x => some ⟨x.cfg, r.props ++ x.props, r.calls ++ x.calls⟩
        | none => none
    | _ => none

/-! ### A call as a whole -/
def ends : List Item → Bool
  | [] => true
  | .code .ret :: _ => true
  | _ => false

def resK (P : Program) (st : St) : List ResultVar → Option (List A)
  | [] => some []
  | .tmp t :: l => match resK P st l with
    | some r => some (st.env.getD t .undef :: r)
    | none => none
  | .cell a t :: l => match loadK P (lookO st.objs) t (st.env.getD a .undef), resK P st l with
    | some ⟨v, [], [], []⟩, some r => some (v :: r)
    | _, _ => none

def resultsK (P : Program) (fn : Func) (st : St) : Option A :=
  match resK P st fn.results.toList with
  | some [a] => some a
  | some l => some (.tup l)
  | none => none

def startSt (fn : Func) (args : List A) (objs : List O) : St :=
  ⟨args ++ List.replicate (fn.ntmps - args.length) .undef, numbered 0 objs, objs.length, objs.length⟩

def below (m : Nat) (l : List Nat) : Bool := l.all fun k => decide (k < m)
def startOk (args : List A) (objs : List O) : Bool := below objs.length (idsL args) && objs.all fun x => below objs.length x.ids

def reachGo (look : Nat → Option O) : Nat → List Nat → List Nat → List Nat
  | 0, _, acc => acc
  | _, [], acc => acc
  | n + 1, o :: l, acc => if hasN acc o then reachGo look n l acc else match look o with
    | some x => reachGo look n (x.ids ++ l) (acc ++ [o])
    | none => reachGo look n l acc

def pairUp (np : Nat) : Nat → List Nat → List (Nat × Nat)
  | _, [] => []
  | j, o :: l => if o < np then (o, o) :: pairUp np j l else (o, j) :: pairUp np (j + 1) l

def endK (P : Program) (fn : Func) (st : St) : Option (A × List (Nat × O)) :=
  match resultsK P fn st with
  | none => none
  | some res =>
    let keep := reachGo (lookO st.objs) 200 (List.range st.np ++ res.ids) []
    let pairs := pairUp st.np st.np keep
    match canonSt [] pairs st with
    | some st' => some (renA (lookI pairs) res, st'.objs)
    | none => none

def runD (P : Program) : Nat → Runner
  | 0 => fun _ _ _ _ => none
  | d + 1 => fun f args objs scr => match P.funcs[f]? with
    | none => none
    | some fn => match fn.body with
      | none => none
      | some c => if startOk args objs then match execN P (runD P d) 100000 scr ⟨[.code c], startSt fn args objs⟩ with
        | none => none
        | some r => if ends r.cfg.todo then match endK P fn r.cfg.st with
          | some (res, fin) => some ⟨res, fin, r.props, r.calls⟩
          | none => none
          else none
        else none

/-- where in a body -/
inductive Dir where
  | l | r | b | h | t | e
def focusGo : List Dir → Code → List Item → List Item
  | .l :: p, .seq a b, k => focusGo p a (.code b :: k)
  | .r :: p, .seq _ b, k => focusGo p b k
  | .b :: p, .block id c, k => focusGo p c (.inBlock id :: k)
  | .b :: p, .loop c, k => focusGo p c (.inLoop c :: k)
  | .h :: _, .loop c, k => .inLoop c :: k
  | .t :: p, .cond _ a _, k => focusGo p a k
  | .e :: p, .cond _ _ a, k => focusGo p a k
  | [], c, k => .code c :: k
  | _, _, k => k
def focus (fn : Func) (p : List Dir) : List Item := match fn.body with
  | some c => focusGo p c []
  | none => []

end Go.Proofs.YtcbeifkfllcjoaaDoor
