/- The interpreter of the road R, part Ra: its data, its steps, and that it is right. -/
import Derived.Orders
import Derived.Below
import Derived.Tactics
import Derived.WalkKit
set_option linter.unusedVariables false
set_option linter.unusedSimpArgs false
/- A definitional interpreter for a part of the model's code: data, memory of owned blocks, instructions, and the interpreter with fuel. -/
namespace Go.Proofs.R
open Go

/-- Data that nobody writes any more. A slice and a struct are lists of cells. A 'ref' is a slice on a block of the heap, by the block's number: cells an element, from which cell on, how many elements. -/
inductive D where
  | int (k : IntKind) (n : Int)
  | bool (b : Bool)
  | str (s : ByteArray)
  | raw (v : Value)
  | sl (k : Nat) (l : List D)
  | ag (l : List D)
  | ref (c k off n : Nat)

/-- What a temporary may hold: data; a slice on a block of the call's own (its number, cells an element, from which cell on, how many elements); a pointer into one; a pointer to data; several. -/
inductive V where
  | d (x : D)
  | own (b k off n : Nat)
  | ptr (b off : Nat)
  | cp (l : List D) (i : Nat)
  | tp (l : List V)

/-- A block of the call's own: how many cells from the start on are given away; may it not grow? its cells. -/
structure Blk where
  pub : Nat
  fix : Bool
  cells : List D

section assoc
variable {α : Type}
def aget : List (Nat × α) → Nat → Option α
  | [], _ => none
  | (s, x) :: r, t => if s = t then some x else aget r t
def aput (t : Nat) (v : α) : List (Nat × α) → List (Nat × α)
  | [] => [(t, v)]
  | (s, x) :: r => if t < s then (t, v) :: (s, x) :: r else if t = s then (t, v) :: r else (s, x) :: aput t v r
def adel (t : Nat) : List (Nat × α) → List (Nat × α)
  | [] => []
  | (s, x) :: r => if s = t then adel t r else (s, x) :: adel t r
end assoc

abbrev Env := List (Nat × V)
abbrev Mem := List (Nat × Blk)

/-- An operand. -/
inductive X where
  | t (n : Nat)
  | c (x : D)

def X.ev (e : Env) : X → Option V
  | .t n => aget e n
  | .c x => some (.d x)

/-- An instruction's operation. -/
inductive J where
  | mv (x : X)
  | pick (c a b : X)
  | bin (op : BinOp) (x y : X)
  | beq (neg : Bool) (x y : X)
  | un (op : UnOp) (x : X)
  | pnil (neg : Bool) (x : X)
  | conv (k : IntKind) (x : X)
  | box (x : X)
  | new (zero : List D)
  | nil (k : Nat)
  | fA (off : Nat) (x : X)
  | fV (off n : Nat) (agg : Bool) (x : X)
  | iA (k : Nat) (x i : X)
  | aA (len k : Nat) (x i : X)
  | iV (len k : Nat) (agg : Bool) (x i : X)
  | sI (x i : X)
  | ld (n : Nat) (agg : Bool) (x : X)
  | st (n : Nat) (x v : X)
  | mk (k bytes : Nat) (zero : List D) (l c : X)
  | lit (k n : Nat) (cells : List D) (parts : List (Nat × Nat × X))
  | lito (k n : Nat) (cells : List D) (parts : List (Nat × Nat × X))
  | bld (cells : List D) (parts : List (Nat × Nat × X))
  | slc (k : Nat) (x : X) (lo hi : Option X)
  | sls (x : X) (lo hi : Option X)
  | ln (x : X)
  | lns (x : X)
  | app (k bytes : Nat) (s x : X)
  | mn (x y : X)
  | mx (x y : X)
  | ext (x : X) (i : Nat)
  | call (f : Nat) (args : List X)
  | callk (f : Nat) (args : List (Bool × X))
  | ldr (x : X)
  | nck (x : X)
  | callc (f : Nat) (args : List X)
  | callh (f : Nat) (args : List (Bool × X))
  | apph (k bytes : Nat) (s x : X)
  | ldd (n : Nat) (agg : Bool) (x : X)
  | litd (k n : Nat) (cells : List D) (parts : List (Nat × Nat × X))
  | lith (k n : Nat) (cells : List D)
  | appf (k bytes : Nat) (s x : X)
  | mkh (k bytes : Nat) (zero : List D) (l c : X)
  | callu (f : Nat) (args : List X)

/-- An instruction. -/
inductive I where
  | a (dst : Nat) (op : J)
  | n (op : J)
  | g (dst : Nat) (t : Nat) (want : Bool) (op : J)

/-- Code. A region: slices given away ahead of it; its instructions; what is forgotten behind it (temporaries, blocks). -/
inductive C where
  | skip
  | reg (pub : List Nat) (ops : List I) (kill killb : List Nat)
  | seq (a b : C)
  | cond (c : X) (a b : C)
  | block (id : Nat) (b : C)
  | loop (kill killb : List Nat) (b : C)
  | exit (id : Nat)
  | ret
  | scp (b : C)
  | lab
  | up (ts : List Nat) (b : C)

/-- A result: a temporary as data; a temporary as it is; a block's cells (how many; a struct?). -/
inductive Res where
  | t (n : Nat)
  | own (n : Nat)
  | cell (addr n : Nat) (agg : Bool)
  | deep (n k : Nat)

structure Fn where
  np : Nat
  res : List Res
  body : C

/-- How a piece of code ends. -/
inductive Ex where
  | normal | ret | exit (id : Nat)

/-! ### Operations -/

/-- A slice as data, whoever may write it. -/
def asD (μ : Mem) : V → Option D
  | .d x => some x
  | .own b k off n => match aget μ b with
    | some B => if off + n * k ≤ B.cells.length then some (.sl k ((B.cells.drop off).take (n * k))) else none
    | none => none
  | _ => none

/-! Blocks of the heap have numbers from 2 ^ 40 on, each used once: the block below tells the next one. -/
def cntOf (μ : Mem) : Nat := match aget μ 1099511627775 with | some B => B.pub | none => 1099511627776

/-- A slice as data: its cells are given away; a slice on a block of the heap: its number. -/
def toD (μ : Mem) : V → Option D
  | .d x => some x
  | .own b k off n => if 1099511627776 ≤ b then (if (aget μ b).isSome = true then some (.ref b k off n) else none) else match aget μ b with
    | some B => if off + n * k ≤ B.cells.length ∧ off + n * k ≤ B.pub then some (.sl k ((B.cells.drop off).take (n * k))) else none
    | none => none
  | _ => none

/-- A slice of a block of the heap, as data. -/
def un (μ : Mem) : D → D
  | .ref c k off n => match aget μ c with
    | some B => if off + n * k ≤ B.cells.length then .sl k ((B.cells.drop off).take (n * k)) else .ref c k off n
    | none => .ref c k off n
  | d => d
/-- A slice as data, and the slices in it, whoever may write them; nil is a slice. -/
def asDD (μ : Mem) (k0 : Nat) : V → Option D
  | .d (.raw (.slice none 0 0)) => if k0 = 0 then none else some (.sl k0 [])
  | .d x => some x
  | .own b k off n => match aget μ b with
    | some B => if off + n * k ≤ B.cells.length then some (.sl k (((B.cells.drop off).take (n * k)).map (un μ))) else none
    | none => none
  | _ => none
mutual
/-- Is there no number of a block in it? -/
def nref : D → Bool
  | .ref _ _ _ _ => false
  | .sl _ l => nrefL l
  | .ag l => nrefL l
  | _ => true
def nrefL : List D → Bool
  | [] => true
  | d :: r => nref d && nrefL r
end

def D.one : D → Bool
  | .ag _ => false
  | _ => true
def D.cells : D → List D
  | .ag l => l
  | x => [x]

def natOf : V → Option Nat
  | .d (.int _ n) => if 0 ≤ n then some n.toNat else none
  | _ => none

def bitsD (op : BinOp) (k : IntKind) (x y : Int) : Int :=
  match op with
  | .and => k.wrap (BitVec.ofInt k.bits x &&& BitVec.ofInt k.bits y).toNat
  | .or => k.wrap (BitVec.ofInt k.bits x ||| BitVec.ofInt k.bits y).toNat
  | .xor => k.wrap (BitVec.ofInt k.bits x ^^^ BitVec.ofInt k.bits y).toNat
  | _ => k.wrap (BitVec.ofInt k.bits x &&& ~~~BitVec.ofInt k.bits y).toNat

def binI (op : BinOp) (k : IntKind) (a b : Int) : Option D :=
  match op with
  | .add => some (.int k (k.wrap (a + b)))
  | .sub => some (.int k (k.wrap (a - b)))
  | .mul => some (.int k (k.wrap (a * b)))
  | .quo => if b = 0 then none else some (.int k (k.wrap (a.tdiv b)))
  | .rem => if b = 0 then none else some (.int k (a.tmod b))
  | .and => some (.int k (bitsD .and k a b))
  | .or => some (.int k (bitsD .or k a b))
  | .xor => some (.int k (bitsD .xor k a b))
  | .andNot => some (.int k (bitsD .andNot k a b))
  | .eql => some (.bool (a == b))
  | .neq => some (.bool (a != b))
  | .lss => some (.bool (decide (a < b)))
  | .leq => some (.bool (decide (a ≤ b)))
  | .gtr => some (.bool (decide (a > b)))
  | .geq => some (.bool (decide (a ≥ b)))
  | _ => none

def shI (left : Bool) (k : IntKind) (a b : Int) : Option D :=
  if b < 0 then none else
  if left then some (.int k (k.wrap (a * 2 ^ min b.toNat k.bits))) else some (.int k (a.fdiv (2 ^ min b.toNat k.bits)))

def binD (op : BinOp) : V → V → Option V
  | .d (.int k a), .d (.int k' b) =>
    match op with
    | .shl => (shI true k a b).map .d
    | .shr => (shI false k a b).map .d
    | op => if k = k' then (binI op k a b).map .d else none
  | .d (.str a), .d (.str b) =>
    match op with
    | .eql => some (.d (.bool (a.toList == b.toList)))
    | .neq => some (.d (.bool (!(a.toList == b.toList))))
    | .add => if a.size + b.size < 2 ^ 62 then some (.d (.str (a ++ b))) else none
    | _ => none
  | _, _ => none

def unD (op : UnOp) : V → Option V
  | .d (.int k n) => match op with
    | .neg => some (.d (.int k (k.wrap (0 - n))))
    | .xor => some (.d (.int k (bitsD .xor k (if k.signed then -1 else k.max) n)))
    | _ => none
  | .d (.bool b) => match op with
    | .not => some (.d (.bool !b))
    | _ => none
  | _ => none

/-- Cells stored into a row from a place on. -/
def setAt {α : Type} : List α → Nat → List α → List α
  | l, _, [] => l
  | l, i, x :: r => setAt (l.set i x) (i + 1) r

/-- Parts of a literal, each at its place. -/
def fillD (e : Env) (μ : Mem) : List (Nat × Nat × X) → List D → Option (List D)
  | [], cs => some cs
  | (off, n, x) :: r, cs => (x.ev e).bind fun v => (toD μ v).bind fun d =>
      if d.cells.length = n ∧ off + n ≤ cs.length then fillD e μ r (setAt cs off d.cells) else none

/-- What n cells from a place on are as data. -/
def view (agg : Bool) (n : Nat) (l : List D) (i : Nat) : Option D :=
  if agg then (if i + n ≤ l.length then some (.ag ((l.drop i).take n)) else none) else l[i]?

def evO (e : Env) (dflt : Nat) : Option X → Option Nat
  | none => some dflt
  | some x => (x.ev e).bind natOf

def evs (e : Env) : List X → Option (List V)
  | [] => some []
  | x :: r => (x.ev e).bind fun v => (evs e r).bind fun vs => some (v :: vs)

def toDs (μ : Mem) : List V → Option (List V)
  | [] => some []
  | v :: r => (toD μ v).bind fun d => (toDs μ r).bind fun ds => some (.d d :: ds)

def asDs (μ : Mem) : List V → Option (List V)
  | [] => some []
  | v :: r => (asD μ v).bind fun d => (asDs μ r).bind fun ds => some (.d d :: ds)

/-- A result as data: nothing in it is anybody's own. -/
def resD (μ : Mem) : V → Option V
  | .tp l => (asDs μ l).map .tp
  | v => (asD μ v).map .d

def asDDs (μ : Mem) : List V → Option (List V)
  | [] => some []
  | v :: r => (asDD μ 1 v).bind fun d => if nref d = true then (asDDs μ r).bind fun ds => some (.d d :: ds) else none
/-- A result as data, all of it. -/
def resDD (μ : Mem) : V → Option V
  | .tp l => (asDDs μ l).map .tp
  | v => (asDD μ 1 v).bind fun d => if nref d = true then some (.d d) else none

/-- Is a block spoken of? (Several results hold no several results.) -/
def V.says1 (b : Nat) : V → Bool
  | .own c _ _ _ => c == b
  | .ptr c _ => c == b
  | .tp _ => true
  | _ => false
def V.says (b : Nat) : V → Bool
  | .tp l => l.any (V.says1 b)
  | v => v.says1 b

/-- What speaks of a block is forgotten. -/
def drop (b : Nat) (e : Env) : Env := e.filter fun p => !p.2.says b

/-- What is asked of the interpreter: a call, or a piece of code. -/
inductive Task where
  | call (f : Nat) (args : List V) (μ : Mem)
  | code (c : C) (e : Env) (μ : Mem)
inductive Out where
  | ret (v : V) (μ : Mem)
  | st (x : Ex) (e : Env) (μ : Mem)

/-- What is loaded: a slice on a block of the heap, or data. -/
def lift (μ : Mem) : D → Option V
  | .ref c k off n => if 1099511627776 ≤ c ∧ (aget μ c).isSome = true then some (.own c k off n) else none
  | d => some (.d d)

/-- The value of an operation that writes nothing. -/
def val (dst : Nat) (e : Env) (μ : Mem) : J → Option V
  | .mv x => x.ev e
  | .pick c a b => (c.ev e).bind fun | .d (.bool t) => if t then a.ev e else b.ev e | _ => none
  | .bin op x y => (x.ev e).bind fun u => (y.ev e).bind fun v => binD op u v
  | .beq neg x y => (x.ev e).bind fun u => (y.ev e).bind fun v => match u, v with
    | .d (.bool a), .d (.bool b) => some (.d (.bool (if neg then !(a == b) else a == b))) | _, _ => none
  | .un op x => (x.ev e).bind (unD op)
  | .pnil neg x => (x.ev e).bind fun | .ptr _ _ => some (.d (.bool neg)) | .d (.raw (.pointer none)) => some (.d (.bool !neg)) | _ => none
  | .conv k x => (x.ev e).bind fun | .d (.int _ n) => some (.d (.int k (k.wrap n))) | _ => none
  | .new _ => some (.ptr dst 0)
  | .fA off x => (x.ev e).bind fun | .ptr b o => some (.ptr b (o + off)) | .cp l i => some (.cp l (i + off)) | _ => none
  | .fV off n agg x => (x.ev e).bind fun | .d (.ag l) => (view agg n l off).map .d | _ => none
  | .iA k x i => (x.ev e).bind fun u => (i.ev e).bind fun v => (natOf v).bind fun i => match u with
    | .d (.sl k' l) => if k' = k ∧ (i + 1) * k ≤ l.length then some (.cp l (i * k)) else none
    | .own b k' off n => if k' = k ∧ i < n then some (.ptr b (off + i * k)) else none
    | _ => none
  | .aA len k x i => (x.ev e).bind fun u => (i.ev e).bind fun v => (natOf v).bind fun i => if i < len then (match u with
    | .ptr b o => some (.ptr b (o + i * k)) | .cp l o => some (.cp l (o + i * k)) | _ => none) else none
  | .iV len k agg x i => (x.ev e).bind fun u => (i.ev e).bind fun v => (natOf v).bind fun i => if i < len then (match u with
    | .d (.ag l) => (view agg k l (i * k)).map .d | _ => none) else none
  | .sI x i => (x.ev e).bind fun u => (i.ev e).bind fun v => (natOf v).bind fun i => match u with
    | .d (.str s) => s[i]?.map fun b => .d (.int .u8 b.toNat)
    | _ => none
  | .ld n agg x => (x.ev e).bind fun
    | .ptr b o => (aget μ b).bind fun B => (view agg n B.cells o).map .d
    | .cp l i => (view agg n l i).map .d
    | _ => none
  | .lit k n cells parts => if cells.length = n * k then (fillD e μ parts cells).map fun l => .d (.sl k l) else none
  | .ldd n agg x => (x.ev e).bind fun | .cp l i => (view agg n l i).map .d | _ => none
  | .litd k n cells parts => if cells.length = n * k then (fillD e [] parts cells).map fun l => .d (.sl k l) else none
  | .bld cells parts => (fillD e μ parts cells).map fun l => .d (.ag l)
  | .slc k x lo hi => (x.ev e).bind fun
    | .d (.sl k' l) => if k' = k then (evO e (l.length / k) hi).bind fun h => (evO e 0 lo).bind fun lo => if lo ≤ h ∧ h * k ≤ l.length then some (.d (.sl k ((l.drop (lo * k)).take ((h - lo) * k)))) else none else none
    | .own b k' off n => if k' = k then (evO e n hi).bind fun h => (evO e 0 lo).bind fun lo => if lo ≤ h ∧ h ≤ n then some (.own b k (off + lo * k) (h - lo)) else none else none
    | _ => none
  | .sls x lo hi => (x.ev e).bind fun
    | .d (.str s) => (evO e s.size hi).bind fun h => (evO e 0 lo).bind fun lo => if lo ≤ h ∧ h ≤ s.size then some (.d (.str (s.extract lo h))) else none
    | _ => none
  | .ln x => (x.ev e).bind fun
    | .d (.sl k l) => some (.d (.int .i64 ((l.length / k : Nat) : Int)))
    | .own _ _ _ n => some (.d (.int .i64 (n : Int)))
    | .d (.raw (.slice none 0 0)) => some (.d (.int .i64 0))
    | _ => none
  | .ldr x => (x.ev e).bind fun
    | .ptr b o => (aget μ b).bind fun B => B.cells[o]?.bind (lift μ)
    | .cp l i => l[i]?.bind (lift μ)
    | _ => none
  | .nck x => (x.ev e).bind fun | .ptr b o => some (.ptr b o) | .cp l i => some (.cp l i) | _ => none
  | .lns x => (x.ev e).bind fun
    | .d (.str s) => some (.d (.int .i64 (s.size : Int)))
    | _ => none
  | .mn x y => (x.ev e).bind fun u => (y.ev e).bind fun v => match u, v with
    | .d (.int k a), .d (.int _ b) => some (.d (.int k (if b < a then b else a))) | _, _ => none
  | .mx x y => (x.ev e).bind fun u => (y.ev e).bind fun v => match u, v with
    | .d (.int k a), .d (.int _ b) => some (.d (.int k (if a < b then b else a))) | _, _ => none
  | .ext x i => (x.ev e).bind fun | .tp l => l[i]? | _ => none
  | _ => none

/-- The block that a value speaks of, and the value told of another block. -/
def V.blk? : V → Option Nat
  | .own b _ _ _ => some b
  | .ptr b _ => some b
  | _ => none
def V.re (j : Nat) : V → V
  | .own _ k off n => .own j k off n
  | .ptr _ off => .ptr j off
  | v => v

/-- A value told of another block. -/
def V.ren1 (b c : Nat) (v : V) : V := if v.blk? = some b then v.re c else v
def V.ren (b c : Nat) : V → V
  | .tp l => .tp (l.map (V.ren1 b c))
  | v => v.ren1 b c
/-- A block of the call's own moves to the heap. -/
def prom (b : Nat) (e : Env) (μ : Mem) : Option (Env × Mem) := (aget μ b).bind fun B =>
  if b < 1099511627775 ∧ B.fix = false ∧ B.pub = 0 then some (e.map fun p => (p.1, p.2.ren b (cntOf μ)), aput 1099511627775 ⟨cntOf μ + 1, true, []⟩ (aput (cntOf μ) B (adel b μ))) else none
/-- The blocks of the heap that a row of cells speaks of. -/
def heapRefs : List D → List Nat
  | [] => []
  | .ref c _ _ _ :: r => if 1099511627776 ≤ c then c :: heapRefs r else heapRefs r
  | _ :: r => heapRefs r
/-- Blocks go. -/
def adels : List Nat → Mem → Mem
  | [], μ => μ
  | c :: r, μ => adels r (adel c μ)
/-- A slice on a block of the heap becomes data: nobody writes it any more, nor the rows in it. -/
def frz (t : Nat) (e : Env) (μ : Mem) : Option (Env × Mem) := (aget e t).bind fun
  | .own b k off n => if 1099511627776 ≤ b then (aget μ b).bind fun B => (asDD μ 1 (.own b k off n)).bind fun d => if nref d = true then some (aput t (.d d) e, adels (b :: heapRefs B.cells) μ) else none else none
  | _ => none
/-- The blocks of some temporaries move to the heap; or what lies there becomes data. -/
def ups : List Nat → Env → Mem → Option (Env × Mem)
  | [], e, μ => some (e, μ)
  | t :: r, e, μ => if 4294967296 ≤ t then (frz (t - 4294967296) e μ).bind fun (e, μ) => ups r e μ else match aget e t with
    | some (.own b _ _ _) => if 1099511627776 ≤ b then ups r e μ else (prom b e μ).bind fun (e, μ) => ups r e μ
    | some _ => ups r e μ
    | none => none
/-- The heap, and the rest. -/
def hpart (μ : Mem) : Mem := μ.filter fun p => decide (1099511627775 ≤ p.1)
def npart (μ : Mem) : Mem := μ.filter fun p => decide (p.1 < 1099511627775)
/-- A new block of the heap. -/
def hput (B : Blk) (μ : Mem) : Mem := aput 1099511627775 ⟨cntOf μ + 1, true, []⟩ (aput (cntOf μ) B μ)

/-- The arguments of a call, and the blocks that go with them: those of the flagged ones, under the argument's place. -/
def argsK (e : Env) (μ : Mem) : Nat → List (Bool × X) → Option (List V × Mem)
  | _, [] => some ([], [])
  | j, (false, x) :: r => (x.ev e).bind fun v => (toD μ v).bind fun d => (argsK e μ (j + 1) r).bind fun (vs, ν) => some (.d d :: vs, ν)
  | j, (true, x) :: r => (x.ev e).bind fun v => v.blk?.bind fun b => (aget μ b).bind fun B => if B.pub = 0 then (argsK e μ (j + 1) r).bind fun (vs, ν) => some (v.re j :: vs, (j, { B with fix := true }) :: ν) else none

/-- Which block of the caller each flagged argument speaks of. -/
def ioK (e : Env) : Nat → List (Bool × X) → List (Nat × Nat)
  | _, [] => []
  | j, (false, _) :: r => ioK e (j + 1) r
  | j, (true, x) :: r => match (x.ev e).bind V.blk? with | some b => (j, b) :: ioK e (j + 1) r | none => ioK e (j + 1) r

/-- The caller's blocks behind the call: each flagged one as it came back. -/
def backK (ν : Mem) : List (Nat × Nat) → Mem → Option Mem
  | [], μ => some μ
  | (j, b) :: r, μ => (aget μ b).bind fun B => (aget ν j).bind fun N => backK ν r (aput b { N with fix := B.fix } μ)

/-- One result behind a call: of a linked block the caller's own number, of a new block a new number; the links behind it. -/
def resK (ν : Mem) (id : Nat) (lk : List (Nat × Nat)) (μ : Mem) : V → Option (V × List (Nat × Nat) × Mem)
  | .d x => some (.d x, lk, μ)
  | v => v.blk?.bind fun c => if 1099511627775 ≤ c then (if 1099511627776 ≤ c ∧ (aget μ c).isSome = true then some (v, lk, μ) else none) else match aget lk c with
    | some b => some (v.re b, lk, μ)
    | none => (aget ν c).bind fun N => if (aget μ id).isNone = true ∧ id < 1099511627775 then some (v.re id, (c, id) :: lk, aput id N μ) else none
/-- Several results. -/
def resKs (ν : Mem) : Nat → List (Nat × Nat) → Mem → List V → Option (List V × List (Nat × Nat) × Mem)
  | _, lk, μ, [] => some ([], lk, μ)
  | id, lk, μ, v :: r => (resK ν id lk μ v).bind fun (v', lk', μ') => (resKs ν (id + 1000) lk' μ' r).bind fun (r', lk'', μ'') => some (v' :: r', lk'', μ'')
def resKK (io : List (Nat × Nat)) (ν : Mem) (id : Nat) (μ : Mem) : V → Option (V × Mem)
  | .tp l => (resKs ν id io μ l).map fun (l, _, μ) => (.tp l, μ)
  | v => (resKs ν id io μ [v]).bind fun (l, _, μ) => match l with | [v] => some (v, μ) | _ => none

def nrefV : List V → Bool
  | [] => true
  | .d x :: r => nref x && nrefV r
  | _ :: _ => false
def distinct : List Nat → Bool
  | [] => true
  | x :: r => !r.contains x && distinct r

/-- A result that moves to the heap. -/
def upR (dst : Nat) (μ : Mem) : V → Mem → Option (V × Mem)
  | .own b k 0 n, μ2 => if b = dst ∧ dst < 1099511627775 ∧ (aget μ dst).isNone = true then (aget μ2 dst).bind fun N => if N.fix = false ∧ N.pub = 0 ∧ 1099511627776 ≤ cntOf μ2 then some (.own (cntOf μ2) k 0 n, hput N (adel dst μ2)) else none else none
  | _, _ => none
/-- A call whose result moves to the heap. -/
def goU (g : Task → Option Out) (dst f : Nat) (l : List X) (e : Env) (μ : Mem) : Option (V × Mem) :=
  (argsK e μ 0 (l.map fun x => (false, x))).bind fun (vs, ν) => if decide (l.length < 1099511627775) && decide (dst < 1099511000000) then (g (.call f vs (ν ++ hpart μ))).bind fun
    | .ret v ν' => (resKK [] ν' dst (npart μ ++ hpart ν') v).bind fun (v2, μ2) => upR dst μ v2 μ2
    | _ => none
    else none

/-- An operation that yields a value. -/
def exO (g : Task → Option Out) (dst : Nat) (op : J) (e : Env) (μ : Mem) : Option (V × Env × Mem) :=
  match op with
  | .box x => (x.ev e).bind fun v => (toD μ v).bind fun d => if (aget μ dst).isNone then some (.ptr dst 0, e, aput dst ⟨0, false, d.cells⟩ μ) else none
  | .nil k => if (aget μ dst).isNone then some (.own dst k 0 0, e, aput dst ⟨0, false, []⟩ μ) else none
  | .mk k bytes zero l c => (l.ev e).bind fun l => (c.ev e).bind fun c => (natOf l).bind fun l => (natOf c).bind fun c =>
      if (aget μ dst).isNone ∧ l ≤ c ∧ bytes * c ≤ 2 ^ 48 ∧ c < 2 ^ 63 then some (.own dst k 0 l, e, aput dst ⟨0, false, (List.replicate l zero).flatten⟩ μ) else none
  | .lito k n cells parts => if (aget μ dst).isNone ∧ cells.length = n * k then (fillD e μ parts cells).bind fun l => some (.own dst k 0 n, e, aput dst ⟨0, false, l⟩ μ) else none
  | .app k bytes s x => (s.ev e).bind fun
    | .own b k' 0 n => (x.ev e).bind fun u => (toD μ u).bind fun
      | .sl k'' l => (aget μ b).bind fun B =>
        if b < 1099511627775 ∧ k' = k ∧ (k'' = k ∨ l = []) ∧ n * k ≤ B.cells.length ∧ B.pub ≤ n * k ∧ B.fix = false ∧ (n * k + l.length) * bytes ≤ k * 2 ^ 46 then
          some (.own b k 0 (n + l.length / k), drop b e, aput b { B with cells := B.cells.take (n * k) ++ l } μ)
        else none
      | _ => none
    | _ => none
  | .apph k bytes s x => (s.ev e).bind fun
    | .d (.raw (.slice none 0 0)) => (x.ev e).bind fun u => (toD μ u).bind fun
      | .sl k'' l => if (aget μ dst).isNone ∧ k ≠ 0 ∧ (k'' = k ∨ l = []) ∧ l.length * bytes ≤ k * 2 ^ 46 then some (.own (cntOf μ) k 0 (l.length / k), e, hput ⟨0, false, l⟩ μ) else none
      | _ => none
    | .own b k' 0 n => (x.ev e).bind fun u => (toD μ u).bind fun
      | .sl k'' l => (aget μ b).bind fun B =>
        if 1099511627776 ≤ b ∧ (aget μ dst).isNone ∧ k' = k ∧ (k'' = k ∨ l = []) ∧ n * k ≤ B.cells.length ∧ (n * k + l.length) * bytes ≤ k * 2 ^ 46 then
          some (.own (cntOf μ) k 0 (n + l.length / k), e, hput { B with cells := B.cells.take (n * k) ++ l } (adel b μ)) else none
      | _ => none
    | _ => none
  | .mkh k bytes zero l c => (l.ev e).bind fun l => (c.ev e).bind fun c => (natOf l).bind fun l => (natOf c).bind fun c =>
      if (aget μ dst).isNone ∧ l ≤ c ∧ bytes * c ≤ 2 ^ 48 ∧ c < 2 ^ 63 then some (.own (cntOf μ) k 0 l, e, hput ⟨0, false, (List.replicate l zero).flatten⟩ μ) else none
  | .lith k n cells => if (aget μ dst).isNone ∧ cells.length = n * k then some (.own (cntOf μ) k 0 n, e, hput ⟨0, false, cells⟩ μ) else none
  | .appf k bytes s x => (s.ev e).bind fun
    | .own b k' 0 n => (x.ev e).bind fun u => (toD μ u).bind fun
      | .sl k'' l => (aget μ b).bind fun B =>
        if 1099511627776 ≤ b ∧ (aget μ dst).isNone ∧ k' = k ∧ (k'' = k ∨ l = []) ∧ n * k ≤ B.cells.length ∧ (n * k + l.length) * bytes ≤ k * 2 ^ 46 then
          some (.d (.sl k (B.cells.take (n * k) ++ l)), e, adel (cntOf μ) (hput { B with cells := B.cells.take (n * k) ++ l } (adel b μ))) else none
      | _ => none
    | _ => none
  | .call f args => if (aget μ 1099511627775).isNone = true then (evs e args).bind fun vs => (toDs μ vs).bind fun ds => (g (.call f ds [])).bind fun
    | .ret v ν => if (aget ν 1099511627775).isNone = true then (resD ν v).bind fun v => some (v, e, μ) else none
    | _ => none
    else none
  | .callc f args => (evs e args).bind fun vs => (toDs μ vs).bind fun ds => if nrefV ds = true then (g (.call f ds [])).bind fun
    | .ret v ν => (resDD ν v).bind fun v => some (v, e, μ)
    | _ => none
    else none
  | .callh f args => (argsK e μ 0 args).bind fun (vs, ν) => if distinct ((ioK e 0 args).map (·.2)) && (ioK e 0 args).all (fun p => decide (p.2 < 1099511627775)) && decide (args.length < 1099511627775) && decide (dst < 1099511000000) then (g (.call f vs (ν ++ hpart μ))).bind fun
    | .ret v ν' => (backK ν' (ioK e 0 args) μ).bind fun μ1 => (resKK (ioK e 0 args) ν' dst (npart μ1 ++ hpart ν') v).bind fun (v, μ2) => some (v, e, μ2)
    | _ => none
    else none
  | .callu f args => (goU g dst f args e μ).bind fun (v, μ') => some (v, e, μ')
  | .callk f args => (argsK e μ 0 args).bind fun (vs, ν) => if distinct ((ioK e 0 args).map (·.2)) && (aget μ 1099511627775).isNone && decide (args.length < 1099511627775) then (g (.call f vs ν)).bind fun
    | .ret v ν' => if (aget ν' 1099511627775).isNone = true then (backK ν' (ioK e 0 args) μ).bind fun μ' => (resKK (ioK e 0 args) ν' dst μ' v).bind fun (v, μ'') => some (v, e, μ'') else none
    | _ => none
    else none
  | op => (val dst e μ op).map fun v => (v, e, μ)

/-- A store. -/
def exS (op : J) (e : Env) (μ : Mem) : Option Mem :=
  match op with
  | .st n x v => (x.ev e).bind fun
    | .ptr b o => (v.ev e).bind fun v => (toD μ v).bind fun d => (aget μ b).bind fun B =>
      if d.cells.length = n ∧ o + n ≤ B.cells.length ∧ B.pub ≤ o then some (aput b { B with cells := setAt B.cells o d.cells } μ) else none
    | _ => none
  | _ => none

def exI (g : Task → Option Out) (i : I) (e : Env) (μ : Mem) : Option (Env × Mem) :=
  match i with
  | .a dst op => (exO g dst op e μ).bind fun (v, e, μ) => some (aput dst v e, μ)
  | .n op => (exS op e μ).bind fun μ => some (e, μ)
  | .g dst t want op => match aget e t with
    | some (.d (.bool b)) => if b = want then (exO g dst op e μ).bind fun (v, e, μ) => some (aput dst v e, μ) else some (aput dst (.tp []) e, μ)
    | some (.tp []) => some (aput dst (.tp []) e, μ)
    | _ => none

def exIs (g : Task → Option Out) : List I → Env → Mem → Option (Env × Mem)
  | [], e, μ => some (e, μ)
  | i :: r, e, μ => (exI g i e μ).bind fun (e, μ) => exIs g r e μ

/-- Blocks laid ahead of a region: those of its 'new's. -/
def pre : List I → Mem → Option Mem
  | [], μ => some μ
  | .a dst (.new z) :: r, μ => if (aget μ dst).isNone then pre r (aput dst ⟨0, true, z⟩ μ) else none
  | _ :: r, μ => pre r μ

def give (e : Env) : List Nat → Mem → Option Mem
  | [], μ => some μ
  | t :: r, μ => if 4294967296 ≤ t then (match aget e (t % 4294967296) with
    | some v => if v.blk? = some (t / 4294967296) then give e r μ else none
    | none => give e r μ) else match aget e t with
    | some (.own b k off n) => if 1099511627775 ≤ b then give e r μ else (aget μ b).bind fun B => if off + n * k ≤ B.cells.length then give e r (aput b { B with pub := max B.pub (off + n * k) } μ) else none
    | some _ => give e r μ
    | none => none

/-- Which temporaries point into which block, as a region's list says. -/
def pts (pub : List Nat) : List (Nat × Nat) := pub.filterMap fun t => if 4294967296 ≤ t then some (t % 4294967296, t / 4294967296) else none

def killT (ts : List Nat) (e : Env) : Env := ts.foldl (fun e t => adel t e) e
def killB : List Nat → Env → Mem → Env × Mem
  | [], e, μ => (e, μ)
  | b :: r, e, μ => killB r (drop b e) (adel b μ)

/-- The results, from the temporaries. -/
def resO (np : Nat) (e : Env) (μ : Mem) : Res → Option V
  | .t n => (aget e n).bind fun
    | .own b k off n => (if b < np ∨ 1099511627775 ≤ b then toD μ (.own b k off n) else asD μ (.own b k off n)).map .d
    | .d x => some (.d x)
    | _ => none
  | .own n => (aget e n).bind fun
    | .tp _ => none
    | v => some v
  | .cell t n agg => (aget e t).bind fun
    | .ptr b o => (aget μ b).bind fun B => (view agg n B.cells o).map .d
    | _ => none
  | .deep n k => (aget e n).bind fun v => (asDD μ k v).map .d
/-- Is a result told with all that is in it? -/
def Res.isDeep : Res → Bool
  | .deep _ _ => true
  | _ => false
def resOs (np : Nat) (e : Env) (μ : Mem) : List Res → Option (List V)
  | [] => some []
  | r :: rs => (resO np e μ r).bind fun v => (resOs np e μ rs).bind fun vs => some (v :: vs)
def resV : List V → V
  | [v] => v
  | l => .tp l
def keeps (np : Nat) (v : V) (μ : Mem) : Mem := μ.filter fun p => p.1 < np || v.says p.1 || decide (1099511627775 ≤ p.1)
/-- What a call ends with: where all of a result is told the heap does not stay. -/
def retR (res : List Res) (np : Nat) (vs : List V) (μ0 μ : Mem) : Option Out :=
  if res.any Res.isDeep = true then (if nrefV vs = true ∧ μ0.isEmpty = true then some (.ret (resV vs) []) else none) else some (.ret (resV vs) (keeps np (resV vs) μ))

def params : Nat → List V → Env
  | _, [] => []
  | j, v :: r => (j, v) :: params (j + 1) r

/-- A task, by the tasks that it sets. -/
def step (ip : Nat → Option Fn) (nat : Nat → List V → Mem → Option (V × Mem)) (g : Task → Option Out) : Task → Option Out
  | .call f args μ => match ip f with
    | some fn => if fn.np = args.length then (g (.code fn.body (params 0 args) μ)).bind fun
        | .st x e μ' => (match x with | .exit _ => none | _ => (resOs fn.np e μ' fn.res).bind fun vs => retR fn.res fn.np vs μ μ')
        | _ => none
      else none
    | none => (nat f args μ).map fun (v, μ) => .ret v μ
  | .code c e μ => match c with
    | .skip => some (.st .normal e μ)
    | .ret => some (.st .ret e μ)
    | .exit id => some (.st (.exit id) e μ)
    | .scp b => g (.code b e μ)
    | .lab => some (.st .normal e μ)
    | .up ts b => (ups ts e μ).bind fun (e, μ) => g (.code b e μ)
    | .reg pub ops kill killb => (give e pub μ).bind fun μ => (pre ops μ).bind fun μ => (exIs g ops e μ).bind fun (e, μ) =>
        some (.st .normal (killB killb (killT kill e) μ).1 (killB killb (killT kill e) μ).2)
    | .seq a b => (g (.code a e μ)).bind fun
      | .st .normal e μ => g (.code b e μ)
      | o => some o
    | .cond c a b => (c.ev e).bind fun
      | .d (.bool t) => if t then g (.code a e μ) else g (.code b e μ)
      | _ => none
    | .block id b => (g (.code b e μ)).bind fun
      | .st (.exit j) e μ => if j = id then some (.st .normal e μ) else some (.st (.exit j) e μ)
      | o => some o
    | .loop kill killb b => (g (.code b (killB killb (killT kill e) μ).1 (killB killb (killT kill e) μ).2)).bind fun
      | .st .normal e μ => g (.code (.loop kill killb b) e μ)
      | o => some o

/-- The interpreter, with fuel. -/
def ex (ip : Nat → Option Fn) (nat : Nat → List V → Mem → Option (V × Mem)) : Nat → Task → Option Out
  | 0, _ => none
  | k + 1, t => step ip nat (ex ip nat k) t
end Go.Proofs.R

/- The compiler from the model's code to the interpreter's. -/
namespace Go.Proofs.R
open Go

/-- What the compiler is told of a function: temporaries whose nil slice is the call's own; literals that are; calls that hand blocks over (which arguments); of each region: what is given away ahead, what is forgotten behind; how results are told; which drawn regions' ops. -/
structure Hint where
  nil : List Nat := []
  lit : List Nat := []
  callk : List (Nat × List Bool) := []
  pub : List (Nat × List Nat) := []
  kill : List (Nat × List Nat × List Nat) := []
  loop : List (Nat × List Nat × List Nat) := []
  own : Bool := false
  heap : Bool := false
  apph : List Nat := []
  callh : List (Nat × List Bool) := []
  callc : List Nat := []
  callu : List Nat := []
  rawnil : List Nat := []
  deep : List (Nat × Nat) := []
  up : List (Nat × List Nat) := []
  pure : List Nat := []
  lith : List Nat := []
  appf : List Nat := []

def szOf (P : Program) (t : TypeId) : Option Nat := (P.info? t).map (·.size)

def zc (P : Program) : Nat → TypeId → Option (List D)
  | 0, _ => none
  | n + 1, t => match P.underlying t with
    | some .bool => some [.bool false]
    | some (.int k) => some [.int k 0]
    | some .string => some [.str ByteArray.empty]
    | some (.slice e) => (szOf P e).map fun k => [.sl k []]
    | some (.struct fs) => fs.toList.foldr (fun f acc => (zc P n f.type).bind fun a => acc.map fun l => a ++ l) (some [])
    | some (.array len e) => (zc P n e).map fun l => (List.replicate len l).flatten
    | some (.pointer _) => some [.raw (.pointer none)]
    | some (.map _ _) => some [.raw (.map none)]
    | some (.func _ _ _) => some [.raw .nilFunc]
    | some (.interface _) => some [.raw .nilIface]
    | _ => none

/-- Zero cells in which a nil slice is known as such. -/
def zcR (P : Program) : Nat → TypeId → Option (List D)
  | 0, _ => none
  | n + 1, t => match P.underlying t with
    | some .bool => some [.bool false]
    | some (.int k) => some [.int k 0]
    | some .string => some [.str ByteArray.empty]
    | some (.slice _) => some [.raw (.slice none 0 0)]
    | some (.struct fs) => fs.toList.foldr (fun f acc => (zcR P n f.type).bind fun a => acc.map fun l => a ++ l) (some [])
    | some (.array len e) => (zcR P n e).map fun l => (List.replicate len l).flatten
    | some (.pointer _) => some [.raw (.pointer none)]
    | some (.map _ _) => some [.raw (.map none)]
    | some (.func _ _ _) => some [.raw .nilFunc]
    | some (.interface _) => some [.raw .nilIface]
    | _ => none

/-- Does a datum read a value, in whatever world? -/
def fits : D → Value → Bool
  | .int k n, .int k' n' => k == k' && n == n'
  | .bool b, .bool c => b == c
  | .str s, .string t => s.data == t.data
  | .sl k [], .slice none 0 0 => k != 0
  | .raw (.pointer none), .pointer none => true
  | .raw (.map none), .map none => true
  | .raw .nilFunc, .nilFunc => true
  | .raw .nilIface, .nilIface => true
  | .raw (.slice none 0 0), .slice none 0 0 => true
  | _, _ => false
def fitsL : List D → List Value → Bool
  | [], [] => true
  | d :: r, v :: s => fits d v && fitsL r s
  | _, _ => false

def zeroD (P : Program) (t : TypeId) : Option (List D) :=
  (zc P 20 t).bind fun l => (P.info? t).bind fun i => i.zero.bind fun z => if fitsL l z.cells.toList && l.length == i.size then some l else none

def zeroR (P : Program) (t : TypeId) : Option (List D) :=
  (zcR P 20 t).bind fun l => (P.info? t).bind fun i => i.zero.bind fun z => if fitsL l z.cells.toList && l.length == i.size then some l else none

/-- A constant as data, at its type. -/
def constD (P : Program) (t : TypeId) : Value → Option D
  | .int k n => some (.int k n)
  | .bool b => some (.bool b)
  | .string s => some (.str s)
  | .slice none 0 0 => match P.underlying t with
    | some (.slice e) => (szOf P e).bind fun k => if k = 0 then none else some (.sl k [])
    | _ => none
  | .pointer none => some (.raw (.pointer none))
  | .nilIface => some (.raw .nilIface)
  | .map none => some (.raw (.map none))
  | .nilFunc => some (.raw .nilFunc)
  | _ => none

def cX (P : Program) (t : TypeId) : Operand → Option X
  | .tmp n => some (.t n)
  | .const v => (constD P t v).map .c
  | _ => none

def isAggT (P : Program) (t : TypeId) : Option Bool :=
  match P.underlying t with
  | some (.struct _) | some (.array _ _) => some true
  | some _ => some false
  | none => none

def cXs (P : Program) : List TypeId → List Operand → Option (List X)
  | _, [] => some []
  | [], _ => none
  | t :: ts, x :: xs => (cX P t x).bind fun a => (cXs P ts xs).map fun l => a :: l

def cParts (P : Program) (place : Nat → Option (Nat × Nat × TypeId)) : List (Nat × Operand) → Option (List (Nat × Nat × X))
  | [] => some []
  | (i, x) :: r => (place i).bind fun (off, n, t) => (cX P t x).bind fun a => (cParts P place r).map fun l => (off, n, a) :: l

def cOX (P : Program) (t : TypeId) : Option Operand → Option (Option X)
  | none => some none
  | some x => (cX P t x).map some

def zipB : List Bool → List X → List (Bool × X)
  | _, [] => []
  | [], x :: r => (false, x) :: zipB [] r
  | b :: bs, x :: r => (b, x) :: zipB bs r

/-- The literal nil of a pointer's type. -/
def isNilC : Operand → Bool
  | .const (.pointer none) => true
  | _ => false
theorem isNilC_eq {x : Operand} (h : isNilC x = true) : x = .const (.pointer none) := by
  unfold isNilC at h
  split at h
  · rfl
  · cases h

def isSl (P : Program) (t : TypeId) : Bool := match P.underlying t with
  | some (.slice _) => true
  | _ => false

/-- An operation; 'dst': where it goes. -/
def cO (P : Program) (h : Hint) (dst : Option Nat) (ty : TypeId) (op : Op) : Option J :=
  match op with
  | .move x | .assign x => match x with
    | .const (.slice none 0 0) => if (dst.map h.nil.contains).getD false then (match P.underlying ty with | some (.slice e) => (szOf P e).bind fun k => if k = 0 then none else some (.nil k) | _ => none) else (cX P ty x).map .mv
    | _ => (cX P ty x).map .mv
  | .pick c a b => (cX P ty c).bind fun c => (cX P ty a).bind fun a => (cX P ty b).map fun b => .pick c a b
  | .alloc t => (zeroD P t).map .new
  | .box t x => (cX P t x).map .box
  | .build t parts => match P.underlying t with
    | some (.struct fs) => if fs.toList.all (fun f => (szOf P f.type).isSome) then (if (dst.map h.rawnil.contains).getD false then zeroR P t else zeroD P t).bind fun z => (cParts P (fun i => fs[i]?.bind fun (f : Field) => (szOf P f.type).map fun n => (f.offset, n, f.type)) parts.toList).map fun ps => .bld z ps else none
    | some (.array _ e) => (zeroD P t).bind fun z => (szOf P e).bind fun k => (cParts P (fun i => some (i * k, k, e)) parts.toList).map fun ps => .bld z ps
    | _ => none
  | .buildSlice t n parts => match P.underlying t with
    | some (.slice e) => (szOf P e).bind fun k => if k = 0 ∨ n * k > 2 ^ 24 then none else (zeroD P e).bind fun z => (cParts P (fun i => some (i * k, k, e)) parts.toList).map fun ps =>
        if (dst.map h.lit.contains).getD false then .lito k n (List.replicate n z).flatten ps else if (dst.map h.pure.contains).getD false then .litd k n (List.replicate n z).flatten ps else if (dst.map h.lith.contains).getD false && ps.isEmpty then .lith k n (List.replicate n z).flatten else .lit k n (List.replicate n z).flatten ps
    | _ => none
  | .load t a => (isAggT P t).bind fun g => (szOf P t).bind fun n => (cX P 0 a).map fun a => if (dst.map h.pure.contains).getD false then .ldd n g a else if h.heap && isSl P t && !g && n == 1 then .ldr a else .ld n g a
  | .store t a v => (szOf P t).bind fun n => (cX P 0 a).bind fun a => (cX P t v).map fun v => .st n a v
  | .nilCheck x => (cX P 0 x).map .nck
  | .binOp op t x y yt => match P.underlying t with
    | some .bool => match op with
      | .eql => (cX P t x).bind fun x => (cX P yt y).map fun y => .beq false x y
      | .neq => (cX P t x).bind fun x => (cX P yt y).map fun y => .beq true x y
      | _ => none
    | some (.pointer _) => if isNilC y = true then (match op with
      | .eql => (cX P t x).map (.pnil false)
      | .neq => (cX P t x).map (.pnil true)
      | _ => none) else none
    | _ => (cX P t x).bind fun x => (cX P yt y).map fun y => .bin op x y
  | .unOp op t x => (cX P t x).map fun x => .un op x
  | .convert src dst x => match P.underlying src, P.underlying dst with
    | some (.int _), some (.int k) => (cX P src x).map fun x => .conv k x
    | _, _ => none
  | .makeSlice t l c => match P.underlying t with
    | some (.slice e) => (P.info? e).bind fun i => if i.size = 0 ∨ i.bytes = 0 then none else (zeroD P e).bind fun z => (cX P 0 l).bind fun l => (cX P 0 c).map fun c => if (dst.map h.lith.contains).getD false then .mkh i.size i.bytes z l c else .mk i.size i.bytes z l c
    | _ => none
  | .slice t x lo hi none => match P.underlying t with
    | some (.slice e) => (szOf P e).bind fun k => if k = 0 then none else (cX P t x).bind fun x => (cOX P 0 lo).bind fun lo => (cOX P 0 hi).map fun hi => .slc k x lo hi
    | some .string => (cX P t x).bind fun x => (cOX P 0 lo).bind fun lo => (cOX P 0 hi).map fun hi => .sls x lo hi
    | _ => none
  | .fieldAddr t x f => match P.underlying t with
    | some (.struct fs) => fs[f]?.bind fun f => (szOf P f.type).bind fun n => if n = 0 then none else (cX P 0 x).map fun x => .fA f.offset x
    | _ => none
  | .field t x f => match P.underlying t with
    | some (.struct fs) => fs[f]?.bind fun f => (szOf P f.type).bind fun n => (isAggT P f.type).bind fun g => (cX P t x).map fun x => .fV f.offset n g x
    | _ => none
  | .indexAddr t x i => match P.underlying t with
    | some (.slice e) => (szOf P e).bind fun k => if k = 0 then none else (cX P t x).bind fun x => (cX P 0 i).map fun i => .iA k x i
    | some (.array n e) => (szOf P e).bind fun k => (cX P t x).bind fun x => (cX P 0 i).map fun i => .aA n k x i
    | _ => none
  | .index t x i => match P.underlying t with
    | some (.array n e) => (szOf P e).bind fun k => (isAggT P e).bind fun g => (cX P t x).bind fun x => (cX P 0 i).map fun i => .iV n k g x i
    | some .string => (cX P t x).bind fun x => (cX P 0 i).map fun i => .sI x i
    | _ => none
  | .extract x i => (cX P 0 x).map fun x => .ext x i
  | .call { callee := .builtin b, args, argTypes } => match b, args.toList, argTypes.toList with
    | .len, [x], t :: _ => match P.underlying t with
      | some (.slice e) => (szOf P e).bind fun k => if k = 0 then none else (cX P t x).map .ln
      | some .string => (cX P t x).map .lns
      | some (.array n _) => some (.mv (.c (.int .i64 n)))
      | _ => none
    | .append, [s, x], [t, u] => match P.underlying t with
      | some (.slice e) => match P.underlying u with
        | some (.slice e') => (P.info? e).bind fun i => if i.size = 0 ∨ i.bytes = 0 ∨ e' ≠ e then none else (zeroD P e).bind fun _ => (cX P t s).bind fun s => (cX P u x).map fun x => if (dst.map h.apph.contains).getD false then .apph i.size i.bytes s x else if (dst.map h.appf.contains).getD false then .appf i.size i.bytes s x else .app i.size i.bytes s x
        | _ => none
      | _ => none
    | .min, [x, y], [t, _] => match P.underlying t with | some (.int _) => (cX P t x).bind fun x => (cX P t y).map fun y => .mn x y | _ => none
    | .max, [x, y], [t, _] => match P.underlying t with | some (.int _) => (cX P t x).bind fun x => (cX P t y).map fun y => .mx x y | _ => none
    | _, _, _ => none
  | .call { callee := .value (.func f), args, argTypes } => match P.funcs[f]? with
    | some fn => if fn.name == "runtime.NumGoroutine" || fn.body.isNone then none else (cXs P argTypes.toList args.toList).map fun l =>
      match dst.bind (aget h.callk) with
      | some io => .callk f (zipB io l)
      | none => match dst.bind (aget h.callh) with
        | some io => .callh f (zipB io l)
        | none => if (dst.map h.callu.contains).getD false then .callu f l else if h.heap || (dst.map h.callc.contains).getD false then .callc f l else .call f l
    | none => none
  | _ => none

/-- Does it make a block? -/
def J.makes : J → Bool
  | .box _ | .new _ | .nil _ | .mk _ _ _ _ _ | .lito _ _ _ _ | .callk _ _ | .callh _ _ | .apph _ _ _ _ | .lith _ _ _ | .appf _ _ _ _ | .mkh _ _ _ _ _ | .callu _ _ => true
  | _ => false

def mkOk (np : Nat) (dst : Option Nat) (j : J) : Bool := !j.makes || (dst.map fun d => decide (np ≤ d)).getD false

/-- An instruction of a region. -/
def cI (P : Program) (h : Hint) (np nt : Nat) (ops : Array Oper) (o : Oper) : Option I :=
  (cO P h o.dst o.type o.op).bind fun io => if mkOk np o.dst io = true then
    (match o.guard with
    | none => match o.dst, io with
      | none, .st n x v => some (.n (.st n x v))
      | some _, .st _ _ _ => none
      | some d, io => if d < nt then some (.a d io) else none
      | none, _ => none
    | some (j, want) => match o.dst, io with
      | some _, .st _ _ _ => none
      | some _, .new _ => none
      | some d, io => (ops[j]?.bind (·.dst)).bind fun t => if d < nt then some (.g d t want io) else none
      | none, _ => none)
  else none

def cIs (P : Program) (h : Hint) (np nt : Nat) (ops : Array Oper) : List Oper → Option (List I)
  | [] => some []
  | o :: r => (cI P h np nt ops o).bind fun i => (cIs P h np nt ops r).map fun l => i :: l

/-! What may change places. -/
def X.reads : X → List Nat
  | .t n => [n]
  | .c _ => []
def oX : Option X → List Nat
  | none => []
  | some x => x.reads
def J.reads : J → List Nat
  | .mv x | .un _ x | .pnil _ x | .conv _ x | .box x | .fA _ x | .fV _ _ _ x | .ld _ _ x | .ldr x | .ldd _ _ x | .nck x | .ln x | .lns x | .ext x _ => x.reads
  | .pick c a b => c.reads ++ a.reads ++ b.reads
  | .bin _ x y | .beq _ x y | .iA _ x y | .aA _ _ x y | .iV _ _ _ x y | .sI x y | .st _ x y | .mk _ _ _ x y | .mkh _ _ _ x y | .app _ _ x y | .apph _ _ x y | .appf _ _ x y | .mn x y | .mx x y => x.reads ++ y.reads
  | .new _ | .nil _ | .lith _ _ _ => []
  | .litd _ _ _ ps | .lit _ _ _ ps | .lito _ _ _ ps | .bld _ ps => ps.flatMap fun p => p.2.2.reads
  | .slc _ x l h | .sls x l h => x.reads ++ oX l ++ oX h
  | .call _ l | .callc _ l | .callu _ l => l.flatMap X.reads
  | .callk _ l | .callh _ l => l.flatMap fun p => p.2.reads
/-- 0: neither reads nor writes blocks; 1: reads; 2: a store; 3: all else. -/
def J.cls : J → Nat
  | .mv _ | .pick _ _ _ | .bin _ _ _ | .beq _ _ _ | .un _ _ | .pnil _ _ | .conv _ _ | .new _ | .fA _ _ | .nck _ | .fV _ _ _ _ | .iA _ _ _ | .aA _ _ _ _ | .iV _ _ _ _ _ | .sI _ _ | .slc _ _ _ _ | .sls _ _ _ | .ln _ | .lns _ | .mn _ _ | .mx _ _ | .ext _ _ | .ldd _ _ _ | .litd _ _ _ _ => 0
  | .ld _ _ _ | .ldr _ | .lit _ _ _ _ | .bld _ _ | .call _ _ | .callc _ _ => 1
  | .st _ _ _ => 2
  | _ => 3
def I.op : I → J
  | .a _ o | .n o | .g _ _ _ o => o
def I.dst? : I → Option Nat
  | .a d _ | .g d _ _ _ => some d
  | .n _ => none
def I.reads : I → List Nat
  | .a _ o | .n o => o.reads
  | .g _ t _ o => t :: o.reads
/-- May two instructions change places? -/
def indep (x y : I) : Bool :=
  x.op.cls != 3 && y.op.cls != 3 && !(x.op.cls == 2 && y.op.cls != 0) && !(y.op.cls == 2 && x.op.cls != 0) &&
  (match x.dst? with | some d => !y.reads.contains d && y.dst? != some d | none => true) &&
  (match y.dst? with | some d => !x.reads.contains d | none => true)

/-- Which operations an operation waits for, in whatever order is drawn: a bit each. -/
def ancs (ops : List Oper) : List Nat :=
  ops.foldl (fun acc o => acc ++ [o.after.toList.foldl (fun s e => if Region.binds .any e then s ||| 2 ^ e.on ||| acc.getD e.on 0 else s) 0]) []

/-- A load and a store by pointers into two blocks. -/
def disj1 (pt : List (Nat × Nat)) (x y : I) : Bool :=
  match x, y with
  | .a d (.ld _ _ (.t s)), .n (.st n (.t t) v) => (match aget pt s, aget pt t with | some b, some c => b != c | _, _ => false) && !(J.st n (.t t) v).reads.contains d
  | _, _ => false
def J.callk? : J → Option (List (Bool × X))
  | .callk _ l => some l
  | _ => none
/-- A call that blocks are handed over to, and what does not read blocks, or loads from another block. -/
def disjK (pt : List (Nat × Nat)) (x y : I) : Bool :=
  match y with
  | .a d' op => (match op.callk? with
    | some l => (match x.dst? with | some d => !y.reads.contains d && d != d' | none => false) && !x.reads.contains d' &&
      (x.op.cls == 0 || (match x with
        | .a _ (.ld _ _ (.t s)) => (match aget pt s with
          | some b => decide (b < d') && l.all fun p => !p.1 || (match p.2 with | .t u => (match aget pt u with | some c => c != b | none => false) | .c _ => false)
          | none => false)
        | _ => false))
    | none => false)
  | _ => false
/-- Does it make a block of the heap? -/
def J.hop : J → Bool
  | .apph _ _ _ _ | .lith _ _ _ | .appf _ _ _ _ | .mkh _ _ _ _ _ => true
  | _ => false
/-- An append on the heap, and what does not read blocks. -/
def disjH (x y : I) : Bool :=
  match y with
  | .a d' op => op.hop && (match x.dst? with | some d => !op.reads.contains d && d != d' | none => false) && !x.reads.contains d' && x.op.cls == 0
  | _ => false
/-- A call whose result moves to the heap, and what does not read blocks, or loads from a block of the call's own. -/
def disjU (pt : List (Nat × Nat)) (x y : I) : Bool :=
  match y with
  | .a d' (.callu _ l) => (match x.dst? with | some d => !(l.flatMap X.reads).contains d && d != d' | none => false) && !x.reads.contains d' &&
      (x.op.cls == 0 || (match x with
        | .a _ (.ld _ _ (.t s)) => (match aget pt s with | some b => decide (b < d') | none => false)
        | _ => false))
  | _ => false
def disj (pt : List (Nat × Nat)) (x y : I) : Bool := disj1 pt x y || disj1 pt y x || disjK pt x y || disjK pt y x || disjH x y || disjH y x || disjU pt x y || disjU pt y x
/-- What is told of a pointer stays true. -/
def keepsPt (pt : List (Nat × Nat)) (i : I) : Bool := (i.op.cls != 3 || ((match i with | .a _ _ => true | _ => false) && i.op.callk?.isSome) || (match i with | .a _ (.callu _ _) => true | .a _ (.callh _ _) => true | _ => false)) && (match i.dst? with
  | some d => (match aget pt d with
    | some b => (match i with | .a _ (.iA _ (.t s) _) => aget pt s == some b | .a _ (.mv (.t s)) => aget pt s == some b | .a _ (.fA _ (.t s)) => aget pt s == some b | _ => false)
    | none => true)
  | none => true)

/-- Of each two instructions of a drawn region: the later one waits for the earlier one, or they may change places. -/
def drawOk (pt : List (Nat × Nat)) (ops : List Oper) (is : List I) : Bool :=
  (pt.isEmpty || is.all (keepsPt pt)) &&
  let an := ancs ops
  (List.range ops.length).all (fun j => (ops.getD j default).after.toList.all (fun e => !Region.binds .any e || e.on < j)) &&
  (List.range is.length).all fun j => (List.range j).all fun i => (an.getD j 0).testBit i || (match is[i]?, is[j]? with | some x, some y => indep x y || disj pt x y | _, _ => false)

def find (l : List (Nat × List Nat)) (k : Nat) : List Nat := (aget l k).getD []

/-- Code ahead of which blocks move to the heap. -/
def upC (ts : List Nat) (c : C) : C := if ts.isEmpty then c else .up ts c
/-- Code. -/
def cC (P : Program) (h : Hint) (np nt : Nat) : Nat → Code → Option C
  | _, .skip => some .skip
  | _, .ret => some .ret
  | _, .exit id => some (.exit id)
  | _, .label _ => some .lab
  | cur, .scope b => (cC P h np nt cur b).map fun b => .scp b
  | _, .region id ops draw => (cIs P h np nt ops ops.toList).bind fun is =>
      if draw && !(drawOk (pts (find h.pub id)) ops.toList is && P.follows .mixedOrders) then none else
      if ((aget h.kill id).getD ([], [])).2.all (fun b => decide (b < 1099511627775)) = false then none else
      some (upC (find h.up id) (.reg (find h.pub id) is ((aget h.kill id).getD ([], [])).1 ((aget h.kill id).getD ([], [])).2))
  | cur, .seq a b => (cC P h np nt cur a).bind fun a => (cC P h np nt cur b).map fun b => .seq a b
  | cur, .cond c a b => (cX P 0 c).bind fun c => (cC P h np nt cur a).bind fun a => (cC P h np nt cur b).map fun b => .cond c a b
  | _, .block id b => (cC P h np nt id b).map fun b => .block id b
  | cur, .loop b => if ((aget h.loop cur).getD ([], [])).2.all (fun b => decide (b < 1099511627775)) = false then none else (cC P h np nt cur b).map fun b => .loop ((aget h.loop cur).getD ([], [])).1 ((aget h.loop cur).getD ([], [])).2 b
  | _, _ => none

def cRes (P : Program) (own : Bool) (deep : List (Nat × Nat)) : List ResultVar → Option (List Res)
  | [] => some []
  | .tmp t :: r => (cRes P own deep r).map fun l => (match aget deep t with | some k => Res.deep t k | none => if own then Res.own t else .t t) :: l
  | .cell a t :: r => (isAggT P t).bind fun g => (szOf P t).bind fun n => (cRes P own deep r).map fun l => .cell a n g :: l

def cFn (P : Program) (h : Hint) (fn : Func) : Option Fn :=
  if fn.nfree = 0 ∧ fn.params.size ≤ fn.ntmps ∧ fn.ntmps < 1099511000000 then
    (cRes P h.own h.deep fn.results.toList).bind fun res => fn.body.bind fun b => (cC P h fn.params.size fn.ntmps 0 b).map fun c => ⟨fn.params.size, res, c⟩
  else none
end Go.Proofs.R

/- The interpreter without fuel: its unfolding equations. -/
namespace Go.Proofs.R
open Go

abbrev Ip := Nat → Option Fn
abbrev Nv := Nat → List V → Mem → Option (V × Mem)

/-- What F answers hangs on finitely many answers of the oracle. -/
def Fini {α : Type} (F : (Task → Option Out) → Option α) : Prop :=
  ∀ g x, F g = some x → ∃ l : List (Task × Out), (∀ p ∈ l, g p.1 = some p.2) ∧ ∀ g' : Task → Option Out, (∀ p ∈ l, g' p.1 = some p.2) → F g' = some x

theorem Fini.const {α : Type} (c : Option α) : Fini (fun _ => c) := fun _ _ h => ⟨[], by simp, fun _ _ => h⟩
theorem Fini.ask (t : Task) : Fini (fun g => g t) := fun g x h => ⟨[(t, x)], by simpa using h, fun g' h' => h' (t, x) (by simp)⟩
theorem Fini.bind {α β : Type} {A : (Task → Option Out) → Option α} {B : α → (Task → Option Out) → Option β} (hA : Fini A) (hB : ∀ a, Fini (B a)) :
    Fini (fun g => (A g).bind fun a => B a g) := by
  intro g x h
  obtain ⟨a, ha, hb⟩ := Option.bind_eq_some_iff.1 h
  obtain ⟨l, h1, h2⟩ := hA g a ha
  obtain ⟨m, h3, h4⟩ := hB a g x hb
  refine ⟨l ++ m, fun p hp => ?_, fun g' h' => ?_⟩
  · rcases List.mem_append.1 hp with hp | hp
    · exact h1 p hp
    · exact h3 p hp
  · have := h2 g' fun p hp => h' p (List.mem_append_left _ hp)
    simp only [this, Option.bind_some]
    exact h4 g' fun p hp => h' p (List.mem_append_right _ hp)

theorem Fini.exO (dst : Nat) (op : J) (e : Env) (μ : Mem) : Fini (fun g => exO g dst op e μ) := by
  cases op <;> first | exact Fini.const _ | skip
  case call f args =>
    simp only [R.exO]
    split
    · refine Fini.bind (Fini.const _) fun vs => Fini.bind (Fini.const _) fun ds => Fini.bind (Fini.ask _) fun o => ?_
      cases o <;> exact Fini.const _
    · exact Fini.const _
  case callc f args =>
    refine Fini.bind (Fini.const _) fun vs => Fini.bind (Fini.const _) fun ds => ?_
    split
    · refine Fini.bind (Fini.ask _) fun o => ?_
      cases o <;> exact Fini.const _
    · exact Fini.const _
  case callh f args =>
    refine Fini.bind (Fini.const _) fun p => ?_
    obtain ⟨vs, ν⟩ := p
    simp only
    split
    · refine Fini.bind (Fini.ask _) fun o => ?_
      cases o <;> exact Fini.const _
    · exact Fini.const _
  case callu f args =>
    refine Fini.bind ?_ fun p => Fini.const _
    refine Fini.bind (Fini.const _) fun p => ?_
    obtain ⟨vs, ν⟩ := p
    simp only
    split
    · refine Fini.bind (Fini.ask _) fun o => ?_
      cases o <;> exact Fini.const _
    · exact Fini.const _
  case callk f args =>
    refine Fini.bind (Fini.const _) fun p => ?_
    obtain ⟨vs, ν⟩ := p
    simp only
    split
    · refine Fini.bind (Fini.ask _) fun o => ?_
      cases o <;> exact Fini.const _
    · exact Fini.const _

theorem Fini.exI (i : I) (e : Env) (μ : Mem) : Fini (fun g => exI g i e μ) := by
  cases i with
  | a dst op => exact Fini.bind (Fini.exO _ _ _ _) fun _ => Fini.const _
  | n op => exact Fini.const _
  | g dst t want op =>
    simp only [R.exI]
    split
    · split
      · exact Fini.bind (Fini.exO _ _ _ _) fun _ => Fini.const _
      · exact Fini.const _
    · exact Fini.const _
    · exact Fini.const _

theorem Fini.exIs (l : List I) : ∀ (e : Env) (μ : Mem), Fini (fun g => exIs g l e μ) := by
  induction l with
  | nil => exact fun _ _ => Fini.const _
  | cons i r ih => exact fun e μ => Fini.bind (Fini.exI i e μ) fun p => ih p.1 p.2

theorem Fini.step (ip : Ip) (nv : Nv) (t : Task) : Fini (fun g => step ip nv g t) := by
  cases t with
  | call f args μ =>
    simp only [R.step]
    split
    · split
      · refine Fini.bind (Fini.ask _) fun o => ?_
        cases o <;> exact Fini.const _
      · exact Fini.const _
    · exact Fini.const _
  | code c e μ =>
    cases c with
    | skip => exact Fini.const _
    | ret => exact Fini.const _
    | exit id => exact Fini.const _
    | scp b => exact Fini.ask _
    | lab => exact Fini.const _
    | up ts b => exact Fini.bind (Fini.const _) fun _ => Fini.ask _
    | reg pub ops kill killb => exact Fini.bind (Fini.const _) fun μ => Fini.bind (Fini.const _) fun μ => Fini.bind (Fini.exIs ops e μ) fun _ => Fini.const _
    | seq a b =>
      refine Fini.bind (Fini.ask _) fun o => ?_
      cases o with
      | ret v μ => exact Fini.const _
      | st x e μ => cases x <;> first | exact Fini.ask _ | exact Fini.const _
    | cond c a b =>
      refine Fini.bind (Fini.const _) fun v => ?_
      split
      · split <;> exact Fini.ask _
      · exact Fini.const _
    | block id b =>
      refine Fini.bind (Fini.ask _) fun o => ?_
      cases o with
      | ret v μ => exact Fini.const _
      | st x e μ => cases x <;> exact Fini.const _
    | loop k kb b =>
      refine Fini.bind (Fini.ask _) fun o => ?_
      cases o with
      | ret v μ => exact Fini.const _
      | st x e μ => cases x <;> first | exact Fini.ask _ | exact Fini.const _

section
variable (ip : Ip) (nv : Nv)

theorem ex_mono : ∀ (k : Nat) (t : Task) (o : Out), ex ip nv k t = some o → ex ip nv (k + 1) t = some o
  | 0, _, _, h => by simp [ex] at h
  | k + 1, t, o, h => by
    obtain ⟨l, h1, h2⟩ := Fini.step ip nv t (ex ip nv k) o h
    exact h2 _ fun p hp => ex_mono k p.1 p.2 (h1 p hp)

theorem ex_le {k k' : Nat} (h : k ≤ k') {t : Task} {o : Out} (hk : ex ip nv k t = some o) : ex ip nv k' t = some o := by
  induction h with
  | refl => exact hk
  | step _ ih => exact ex_mono ip nv _ _ _ ih

open Classical in
/-- The interpreter: what it answers with enough fuel. -/
noncomputable def EX (t : Task) : Option Out := if h : ∃ o k, ex ip nv k t = some o then some h.choose else none

theorem EX_some {t : Task} {o : Out} : EX ip nv t = some o ↔ ∃ k, ex ip nv k t = some o := by
  unfold EX
  constructor
  · intro h
    split at h
    · rename_i hh
      obtain ⟨k, hk⟩ := hh.choose_spec
      exact ⟨k, by rw [hk, ← h]⟩
    · cases h
  · rintro ⟨k, hk⟩
    have hh : ∃ o k, ex ip nv k t = some o := ⟨o, k, hk⟩
    rw [dif_pos hh]
    obtain ⟨k', hk'⟩ := hh.choose_spec
    have h1 := ex_le ip nv (Nat.le_max_left k k') hk
    have h2 := ex_le ip nv (Nat.le_max_right k k') hk'
    rw [h1] at h2
    exact h2.symm

theorem ex_all (l : List (Task × Out)) (h : ∀ p ∈ l, EX ip nv p.1 = some p.2) : ∃ k, ∀ p ∈ l, ex ip nv k p.1 = some p.2 := by
  induction l with
  | nil => exact ⟨0, by simp⟩
  | cons p r ih =>
    obtain ⟨k, hk⟩ := ih fun q hq => h q (by simp [hq])
    obtain ⟨k', hk'⟩ := (EX_some ip nv).1 (h p (by simp))
    refine ⟨max k k', fun q hq => ?_⟩
    rcases List.mem_cons.1 hq with rfl | hq
    · exact ex_le ip nv (Nat.le_max_right _ _) hk'
    · exact ex_le ip nv (Nat.le_max_left _ _) (hk q hq)

theorem EX_eq (t : Task) : EX ip nv t = step ip nv (EX ip nv) t := by
  cases h : step ip nv (EX ip nv) t with
  | some o =>
    obtain ⟨l, h1, h2⟩ := Fini.step ip nv t _ o h
    obtain ⟨k, hk⟩ := ex_all ip nv l h1
    exact (EX_some ip nv).2 ⟨k + 1, h2 _ hk⟩
  | none =>
    cases h' : EX ip nv t with
    | none => rfl
    | some o =>
      obtain ⟨k, hk⟩ := (EX_some ip nv).1 h'
      cases k with
      | zero => simp [ex] at hk
      | succ k =>
        obtain ⟨l, h1, h2⟩ := Fini.step ip nv t (ex ip nv k) o hk
        have := h2 (EX ip nv) fun p hp => (EX_some ip nv).2 ⟨k, h1 p hp⟩
        simp only at this
        rw [this] at h
        cases h
end
end Go.Proofs.R

/- What data, values and blocks are in the model's world. -/
namespace Go.Proofs.R
open Go Go.RowKit

/-- A number of a block of the heap: not yet used; its block is gone; the model's block (none: nil). -/
inductive RS where
  | fresh | dead | live (p : Option (Nat × Nat))
/-- What may become of it. -/
def RS.le : RS → RS → Prop
  | .fresh, _ => True
  | .dead, s => s = .dead
  | .live p, s => s = .live p ∨ s = .dead
theorem RS.le_refl (s : RS) : s.le s := by cases s <;> simp [RS.le]
theorem RS.le_trans {s t u : RS} (h : s.le t) (h' : t.le u) : s.le u := by
  cases s with
  | fresh => trivial
  | dead => simp only [RS.le] at h; subst h; exact h'
  | live p =>
    simp only [RS.le] at h
    rcases h with rfl | rfl
    · exact h'
    · simp only [RS.le] at h'; subst h'; exact .inr rfl

/-- The cells that somebody may still write, and the heap's blocks. -/
structure Cells where
  own : Nat → Nat → Prop
  ref : Nat → RS
instance : CoeFun Cells fun _ => Nat → Nat → Prop := ⟨Cells.own⟩
/-- Nothing at all. -/
def OF : Cells := ⟨fun _ _ => False, fun _ => .fresh⟩

/-- A scalar that is told exactly. -/
def rawOk : Value → Bool
  | .pointer none | .map none | .nilFunc | .nilIface | .slice none 0 0 => true
  | _ => false

def oneCell : Value → Bool
  | .agg _ | .tuple _ => false
  | _ => true
/-- A value is a slice on a block. -/
def onBlk (p : Option (Nat × Nat)) (k off n : Nat) (y : Value) : Prop := k ≠ 0 ∧ match p with
  | some (g, s) => ∃ o c, y = .slice (some ⟨g, o, none⟩) n c ∧ n ≤ c ∧ (c = 0 ∨ o = off) ∧ off + c * k ≤ s
  | none => y = .slice none 0 0 ∧ n = 0 ∧ off = 0
/-- A value is a slice on a block of the heap, as far as that is known. -/
def onRef : RS → Nat → Nat → Nat → Value → Prop
  | .fresh, _, _, _, _ => False
  | .dead, _, _, _, y => oneCell y = true
  | .live p, k, off, n, y => onBlk p k off n y
theorem onBlk_one {p : Option (Nat × Nat)} {k off n : Nat} {y : Value} (h : onBlk p k off n y) : oneCell y = true := by
  obtain ⟨_, h⟩ := h
  cases p with
  | none => simp only at h; obtain ⟨rfl, _⟩ := h; rfl
  | some q => obtain ⟨g, s⟩ := q; simp only at h; obtain ⟨o, c, rfl, _⟩ := h; rfl
theorem onRef_one {r : RS} {k off n : Nat} {y : Value} (h : onRef r k off n y) : oneCell y = true := by
  cases r with
  | fresh => exact h.elim
  | dead => exact h
  | live p => exact onBlk_one h
theorem onRef_le {r s : RS} {k off n : Nat} {y : Value} (h : r.le s) (hr : onRef r k off n y) : onRef s k off n y := by
  cases r with
  | fresh => exact hr.elim
  | dead => simp only [RS.le] at h; subst h; exact hr
  | live p =>
    simp only [RS.le] at h
    rcases h with rfl | rfl
    · exact hr
    · exact onBlk_one hr

mutual
/-- A value reads as a datum, from cells that nobody writes any more. -/
def rd (w : World) (O : Cells) : D → Value → Prop
  | .int k n, y => y = .int k n
  | .bool b, y => y = .bool b
  | .str s, y => y = .string s
  | .raw v, y => y = v ∧ rawOk v = true
  | .sl k l, y => ∃ a n c, y = .slice a n c ∧ k ≠ 0 ∧ n ≤ c ∧ n * k = l.length ∧ (l = [] ∨ ∃ b off, a = some ⟨b, off, none⟩ ∧ rdC w O b off l)
  | .ag l, y => ∃ ys, y = .agg ⟨ys⟩ ∧ rdL w O l ys
  | .ref c k off n, y => onRef (O.ref c) k off n y
termination_by structural d => d
/-- Values read as data, one by one. -/
def rdL (w : World) (O : Cells) : List D → List Value → Prop
  | [], ys => ys = []
  | d :: r, ys => ∃ y t, ys = y :: t ∧ d.one = true ∧ rd w O d y ∧ rdL w O r t
termination_by structural l => l
/-- Cells of a block, from a place on, read as data. -/
def rdC (w : World) (O : Cells) (b : Nat) : Nat → List D → Prop
  | _, [] => True
  | off, d :: r => ¬ O b off ∧ (∃ y, w.cell? ⟨b, off, none⟩ = some y ∧ d.one = true ∧ rd w O d y) ∧ rdC w O b (off + 1) r
termination_by structural _ l => l
end

/-- What could be read before can be read, and nobody has taken it over. -/
structure Keep (w : World) (O : Cells) (w' : World) (O' : Cells) : Prop where
  cell : ∀ b off y, w.cell? ⟨b, off, none⟩ = some y → ¬ O b off → w'.cell? ⟨b, off, none⟩ = some y ∧ ¬ O' b off
  ref : ∀ c, (O.ref c).le (O'.ref c)

theorem Keep.refl (w : World) (O : Cells) : Keep w O w O := ⟨fun _ _ _ h h' => ⟨h, h'⟩, fun _ => RS.le_refl _⟩
theorem Keep.trans {w w' w'' : World} {O O' O'' : Cells} (h : Keep w O w' O') (h' : Keep w' O' w'' O'') : Keep w O w'' O'' :=
  ⟨fun b off y a c => let ⟨a', c'⟩ := h.cell b off y a c; h'.cell b off y a' c', fun c => RS.le_trans (h.ref c) (h'.ref c)⟩

mutual
theorem rd_keep {w w' : World} {O O' : Cells} (h : Keep w O w' O') : ∀ (d : D) (y : Value), rd w O d y → rd w' O' d y
  | .int _ _, _, e => by simpa only [rd] using e
  | .bool _, _, e => by simpa only [rd] using e
  | .str _, _, e => by simpa only [rd] using e
  | .raw _, _, e => by simpa only [rd] using e
  | .sl k l, y, e => by
    simp only [rd] at e ⊢
    obtain ⟨a, n, c, rfl, hk, hn, hl, hr⟩ := e
    refine ⟨a, n, c, rfl, hk, hn, hl, ?_⟩
    rcases hr with hr | ⟨b, off, ha, hr⟩
    · exact .inl hr
    · exact .inr ⟨b, off, ha, rdC_keep h b off l hr⟩
  | .ag l, y, e => by
    simp only [rd] at e ⊢
    obtain ⟨ys, rfl, hr⟩ := e
    exact ⟨ys, rfl, rdL_keep h l ys hr⟩
  | .ref c k off n, y, e => by
    simp only [rd] at e ⊢
    exact onRef_le (h.ref c) e
theorem rdL_keep {w w' : World} {O O' : Cells} (h : Keep w O w' O') : ∀ (l : List D) (ys : List Value), rdL w O l ys → rdL w' O' l ys
  | [], _, e => by simpa only [rdL] using e
  | d :: r, ys, e => by
    simp only [rdL] at e ⊢
    obtain ⟨y, t, rfl, h1, h2, h3⟩ := e
    exact ⟨y, t, rfl, h1, rd_keep h d y h2, rdL_keep h r t h3⟩
theorem rdC_keep {w w' : World} {O O' : Cells} (h : Keep w O w' O') (b : Nat) : ∀ (off : Nat) (l : List D), rdC w O b off l → rdC w' O' b off l
  | _, [], _ => by simp only [rdC]
  | off, d :: r, e => by
    simp only [rdC] at e ⊢
    obtain ⟨h1, ⟨y, h2, h3, h4⟩, h5⟩ := e
    obtain ⟨h6, h7⟩ := h.cell b off y h2 h1
    exact ⟨h7, ⟨y, h6, h3, rd_keep h d y h4⟩, rdC_keep h b (off + 1) r h5⟩
end

/-- One value of a temporary. 'm': of each block of the call's own the model's block, and how many cells that has. -/
def rv1 (m : Nat → Option (Nat × Nat)) (w : World) (O : Cells) : V → Value → Prop
  | .d x, y => rd w O x y
  | .own b k off n, y => k ≠ 0 ∧ match m b with
    | some (g, s) => ∃ o c, y = .slice (some ⟨g, o, none⟩) n c ∧ n ≤ c ∧ (c = 0 ∨ o = off) ∧ off + c * k ≤ s
    | none => y = .slice none 0 0 ∧ n = 0 ∧ off = 0
  | .ptr b off, y => ∃ g s, m b = some (g, s) ∧ y = .pointer (some ⟨g, off, none⟩)
  | .cp l i, y => ∃ b off, y = .pointer (some ⟨b, off + i, none⟩) ∧ rdC w O b off l
  | .tp _, _ => False
def rvL (m : Nat → Option (Nat × Nat)) (w : World) (O : Cells) : List V → List Value → Prop
  | [], ys => ys = []
  | v :: r, ys => ∃ y t, ys = y :: t ∧ rv1 m w O v y ∧ rvL m w O r t
def rv (m : Nat → Option (Nat × Nat)) (w : World) (O : Cells) : V → Value → Prop
  | .tp l, y => ∃ ys, y = .tuple ⟨ys⟩ ∧ rvL m w O l ys
  | v, y => rv1 m w O v y

theorem rv_of_rv1 {m : Nat → Option (Nat × Nat)} {w : World} {O : Cells} {v : V} {y : Value} (h : rv1 m w O v y) : rv m w O v y := by
  cases v <;> first | exact h | exact absurd h (by simp [rv1])

/-- What is owned outside of a call; the heap's next number as the call begins, and which of its blocks there are. -/
structure Outs where
  own : Nat → Nat → Prop
  c0 : Nat
  live0 : Nat → Prop
  hc0 : 1099511627776 ≤ c0
instance : CoeFun Outs fun _ => Nat → Nat → Prop := ⟨Outs.own⟩
open Classical in
/-- The heap's blocks. -/
noncomputable def refOf (m : Nat → Option (Nat × Nat)) (μ : Mem) (c : Nat) : RS :=
  if c < 1099511627776 ∨ cntOf μ ≤ c then .fresh else if (aget μ c).isSome = true then .live (m c) else .dead
/-- The blocks' unpublished cells, and those of outside. -/
noncomputable def Ow (O0 : Outs) (m : Nat → Option (Nat × Nat)) (μ : Mem) : Cells :=
  ⟨fun g i => O0 g i ∨ ∃ b B s, aget μ b = some B ∧ m b = some (g, s) ∧ B.pub ≤ i, refOf m μ⟩

/-- A block's cells read as data. -/
def rdB (w : World) (O : Cells) (l : List D) (arr : Array Value) : Prop :=
  ∀ (i : Nat) (d : D), l[i]? = some d → d.one = true ∧ ∃ y, arr[i]? = some y ∧ rd w O d y

/-- From a world on: outside X nothing of what was there has turned. -/
structure Fr (X : Nat → Prop) (w w' : World) : Prop where
  os : w'.os = w.os
  tape : w'.tape = w.tape
  output : w'.output = w.output
  size : w.heap.size ≤ w'.heap.size
  block : ∀ g, g < w.heap.size → ¬ X g → w'.heap[g]? = w.heap[g]?

theorem Fr.refl (X : Nat → Prop) (w : World) : Fr X w w := ⟨rfl, rfl, rfl, Nat.le_refl _, fun _ _ _ => rfl⟩
theorem Fr.trans {X Y Z : Nat → Prop} {a b c : World} (h : Fr X a b) (h' : Fr Y b c) (hX : ∀ g, g < a.heap.size → X g → Z g) (hY : ∀ g, g < a.heap.size → Y g → Z g) : Fr Z a c :=
  ⟨h'.os.trans h.os, h'.tape.trans h.tape, h'.output.trans h.output, Nat.le_trans h.size h'.size, fun g hg hz =>
    (h'.block g (Nat.lt_of_lt_of_le hg h.size) fun hy => hz (hY g hg hy)).trans (h.block g hg fun hx => hz (hX g hg hx))⟩

/-- The blocks as the model has them. -/
structure Blks (lo : Nat) (X : Nat → Prop) (O : Cells) (m : Nat → Option (Nat × Nat)) (μ : Mem) (w : World) : Prop where
  blk : ∀ b B, aget μ b = some B → ∀ g s, m b = some (g, s) →
    (lo ≤ g ∨ X g) ∧ g < w.heap.size ∧ B.cells.length ≤ s ∧ ∃ arr T, w.heap[g]? = some (.cells arr T (0, 0)) ∧ arr.size = s ∧ rdB w O B.cells arr
  inj : ∀ b b' B B' g s s', aget μ b = some B → aget μ b' = some B' → m b = some (g, s) → m b' = some (g, s') → b = b'

/-- The heap's numbers are in order. -/
structure Heap (O0 : Outs) (m0 m : Nat → Option (Nat × Nat)) (nt : Nat) (μ : Mem) : Prop where
  ntb : nt < 1099511000000
  cnt0 : O0.c0 ≤ cntOf μ
  hlt : ∀ b, 1099511627776 ≤ b → (aget μ b).isSome = true → b < cntOf μ
  hst : ∀ b, 1099511627776 ≤ b → b < O0.c0 → m b = m0 b ∧ ((aget μ b).isSome = true → O0.live0 b)
  hcn : m 1099511627775 = none
  hpf : ∀ b B, 1099511627776 ≤ b → aget μ b = some B → B.pub = 0 ∧ B.fix = false

/-- A block may be spoken of: it is there, or it is a number of the heap that was given out. -/
def Said (μ : Mem) (b : Nat) : Prop := (b < 1099511627775 ∧ (aget μ b).isSome = true) ∨ (1099511627776 ≤ b ∧ b < cntOf μ)
theorem Said.mono {μ μ' : Mem} {b : Nat} (h : Said μ b) (hl : b < 1099511627775 → (aget μ b).isSome = true → (aget μ' b).isSome = true) (hc : cntOf μ ≤ cntOf μ') : Said μ' b := by
  rcases h with ⟨h1, h2⟩ | ⟨h1, h2⟩
  · exact .inl ⟨h1, hl h1 h2⟩
  · exact .inr ⟨h1, Nat.lt_of_lt_of_le h2 hc⟩
theorem Said.not {μ : Mem} {b : Nat} (hb : b < 1099511627775) (h : aget μ b = none) : ¬ Said μ b := by
  rintro (⟨_, h2⟩ | ⟨h1, _⟩)
  · rw [h] at h2; cases h2
  · omega

/-- The keys rise. -/
def Srt {α : Type} (e : List (Nat × α)) : Prop := e.Pairwise fun p q => p.1 < q.1

/-- The state of a call under way. 'np': blocks below it came in. -/
structure Rel (w0 : World) (X : Nat → Prop) (O0 : Outs) (m0 : Nat → Option (Nat × Nat)) (np nt : Nat) (m : Nat → Option (Nat × Nat)) (e : Env) (μ : Mem) (a : Act) (w : World) : Prop where
  size : a.tmps.size = nt
  defers : a.defers = []
  srt : Srt e
  env : ∀ t v, aget e t = some v → ∃ y, a.tmps[t]? = some y ∧ rv m w (Ow O0 m μ) v y
  says : ∀ t v, aget e t = some v → ∀ b, v.says b = true → Said μ b
  blks : Blks w0.heap.size X (Ow O0 m μ) m μ w
  frame : Fr X w0 w
  out : ∀ g i, O0 g i → g < w0.heap.size ∧ ¬ X g
  low : ∀ b B, b < np → aget μ b = some B → B.fix = true
  stay : ∀ b, b < np → m b = m0 b
  heap : Heap O0 m0 m (max np nt) μ
end Go.Proofs.R

/- Each operation that writes nothing does in the model what it does in the interpreter. -/
namespace Go.Proofs.R
open Go Go.RowKit
set_option linter.unusedSimpArgs false

theorem aget_aput_same {α : Type} (t : Nat) (v : α) : ∀ l, aget (aput t v l) t = some v
  | [] => by simp [aput, aget]
  | (s, x) :: r => by
    simp only [aput]
    split
    · simp [aget]
    · split
      · simp [aget]
      · rename_i h1 h2
        simp only [aget, if_neg (Ne.symm h2)]
        exact aget_aput_same t v r
theorem aget_aput_ne {α : Type} {t u : Nat} (h : u ≠ t) (v : α) : ∀ l, aget (aput t v l) u = aget l u
  | [] => by simp [aput, aget, Ne.symm h]
  | (s, x) :: r => by
    simp only [aput]
    split
    · simp [aget, Ne.symm h]
    · split
      · rename_i h2
        subst h2
        simp [aget, Ne.symm h]
      · simp only [aget]
        split
        · rfl
        · exact aget_aput_ne h v r
theorem aget_adel_same {α : Type} (t : Nat) : ∀ l : List (Nat × α), aget (adel t l) t = none
  | [] => rfl
  | (s, x) :: r => by
    simp only [adel]
    split
    · exact aget_adel_same t r
    · rename_i h; simp only [aget, if_neg h]; exact aget_adel_same t r
theorem aget_adel_ne {α : Type} {t u : Nat} (h : u ≠ t) : ∀ l : List (Nat × α), aget (adel t l) u = aget l u
  | [] => rfl
  | (s, x) :: r => by
    simp only [adel]
    split
    · rename_i h2; subst h2; simp only [aget, if_neg (Ne.symm h)]; exact aget_adel_ne h r
    · simp only [aget]
      split
      · rfl
      · exact aget_adel_ne h r
theorem aget_aput {α : Type} (t u : Nat) (v : α) (l) : aget (aput t v l) u = if u = t then some v else aget l u := by
  split
  · rename_i h; subst h; exact aget_aput_same _ _ _
  · rename_i h; exact aget_aput_ne h _ _
theorem aget_adel {α : Type} (t u : Nat) (l : List (Nat × α)) : aget (adel t l) u = if u = t then none else aget l u := by
  split
  · rename_i h; subst h; exact aget_adel_same _ _
  · rename_i h; exact aget_adel_ne h _

theorem mem_aput {α : Type} {t : Nat} {v : α} {p : Nat × α} : ∀ {l : List (Nat × α)}, p ∈ aput t v l → p = (t, v) ∨ p ∈ l
  | [], h => by simp [aput] at h; exact .inl h
  | (s, x) :: r, h => by
    simp only [aput] at h
    split at h
    · rcases List.mem_cons.1 h with h | h
      · exact .inl h
      · exact .inr h
    · split at h
      · rcases List.mem_cons.1 h with h | h
        · exact .inl h
        · exact .inr (List.mem_cons_of_mem _ h)
      · rcases List.mem_cons.1 h with h | h
        · subst h; exact .inr (by simp)
        · rcases mem_aput h with h | h
          · exact .inl h
          · exact .inr (List.mem_cons_of_mem _ h)
theorem Srt.aput {α : Type} {t : Nat} {v : α} : ∀ {l : List (Nat × α)}, Srt l → Srt (aput t v l)
  | [], _ => by simp [R.aput, Srt]
  | (s, x) :: r, h => by
    have h' := List.pairwise_cons.1 h
    simp only [R.aput]
    split
    · rename_i hts
      refine List.pairwise_cons.2 ⟨fun q hq => ?_, h⟩
      rcases List.mem_cons.1 hq with rfl | hq
      · exact hts
      · exact Nat.lt_trans hts (h'.1 q hq)
    · split
      · rename_i hts; subst hts; exact List.pairwise_cons.2 ⟨fun q hq => h'.1 q hq, h'.2⟩
      · rename_i h1 h2
        refine List.pairwise_cons.2 ⟨fun q hq => ?_, Srt.aput h'.2⟩
        rcases mem_aput hq with rfl | hq
        · simp only; omega
        · exact h'.1 q hq
theorem mem_adel {α : Type} {t : Nat} {p : Nat × α} : ∀ {l : List (Nat × α)}, p ∈ adel t l → p ∈ l
  | [], h => h
  | (s, x) :: r, h => by
    simp only [adel] at h
    split at h
    · exact List.mem_cons_of_mem _ (mem_adel h)
    · rcases List.mem_cons.1 h with h | h
      · subst h; simp
      · exact List.mem_cons_of_mem _ (mem_adel h)
theorem Srt.adel {α : Type} {t : Nat} : ∀ {l : List (Nat × α)}, Srt l → Srt (adel t l)
  | [], h => h
  | (s, x) :: r, h => by
    have h' := List.pairwise_cons.1 h
    simp only [R.adel]
    split
    · exact Srt.adel h'.2
    · exact List.pairwise_cons.2 ⟨fun q hq => h'.1 q (mem_adel hq), Srt.adel h'.2⟩
theorem Srt.filter {α : Type} {l : List (Nat × α)} (h : Srt l) (f : Nat × α → Bool) : Srt (l.filter f) := List.Pairwise.filter f h
theorem aget_mem {α : Type} : ∀ {l : List (Nat × α)} {t : Nat} {v : α}, aget l t = some v → (t, v) ∈ l
  | [], _, _, h => by simp [aget] at h
  | (s, x) :: r, t, v, h => by
    simp only [aget] at h
    split at h
    · rename_i hs; subst hs; cases h; simp
    · exact List.mem_cons_of_mem _ (aget_mem h)
theorem Srt.aget {α : Type} : ∀ {l : List (Nat × α)} (_ : Srt l) {t : Nat} {v : α}, (t, v) ∈ l → aget l t = some v
  | [], _, _, _, h => by cases h
  | (s, x) :: r, hs, t, v, h => by
    have h' := List.pairwise_cons.1 hs
    simp only [R.aget]
    rcases List.mem_cons.1 h with h | h
    · cases h; simp
    · have := h'.1 (t, v) h
      simp only at this
      rw [if_neg (by omega)]
      exact Srt.aget h'.2 h
theorem aget_filter {α : Type} {l : List (Nat × α)} (hs : Srt l) {f : Nat × α → Bool} {t : Nat} {v : α} (h : aget (l.filter f) t = some v) : aget l t = some v ∧ f (t, v) = true := by
  have := aget_mem h
  rw [List.mem_filter] at this
  exact ⟨hs.aget this.1, this.2⟩

section
variable {P : Program} {m : Nat → Option (Nat × Nat)} {w : World} {O : Cells} {ρ : Operand → Value} {d : Option Tmp} {ty : TypeId} {pos : String} {after : Array Edge} {g : Option (Nat × Bool)}

/-- The operation yields a value that reads so, and turns nothing. -/
def Yields1 (P : Program) (m : Nat → Option (Nat × Nat)) (w : World) (O : Cells) (ρ : Operand → Value) (o : Oper) (v : V) : Prop :=
  ∃ y, (execOp ρ o).run P w = .ok (.value y) w ∧ rv m w O v y

theorem rv_d {x : D} {y : Value} : rv m w O (.d x) y = rd w O x y := rfl

theorem int_of_rv {k : IntKind} {n : Int} {y : Value} (h : rv m w O (.d (.int k n)) y) : y = .int k n := by simpa [rv, rv1, rd] using h
theorem bool_of_rv {b : Bool} {y : Value} (h : rv m w O (.d (.bool b)) y) : y = .bool b := by simpa [rv, rv1, rd] using h
theorem str_of_rv {s : ByteArray} {y : Value} (h : rv m w O (.d (.str s)) y) : y = .string s := by simpa [rv, rv1, rd] using h
theorem rv_int (k : IntKind) (n : Int) : rv m w O (.d (.int k n)) (.int k n) := by simp [rv, rv1, rd]
theorem rv_bool (b : Bool) : rv m w O (.d (.bool b)) (.bool b) := by simp [rv, rv1, rd]
theorem rv_str (s : ByteArray) : rv m w O (.d (.str s)) (.string s) := by simp [rv, rv1, rd]

theorem bin_ok {op : BinOp} {t yt : TypeId} {x y : Operand} {u v r : V} (hx : rv m w O u (ρ x)) (hy : rv m w O v (ρ y)) (h : binD op u v = some r) :
    Yields1 P m w O ρ ⟨d, .binOp op t x y yt, ty, pos, after, g⟩ r := by
  unfold binD at h
  split at h
  · rename_i k a k' b
    have ex := int_of_rv hx
    have ey := int_of_rv hy
    split at h
    · simp only [shI, if_true, Option.map_eq_some_iff] at h
      obtain ⟨z, hz, rfl⟩ := h
      split at hz
      · cases hz
      · rename_i hb
        cases hz
        exact ⟨.int k (k.wrap (a * 2 ^ min b.toNat k.bits)), by simp [execOp, ex, ey, go_sem, eqGuard, binOp, Op.shift, hb], rv_int _ _⟩
    · simp only [shI, Option.map_eq_some_iff] at h
      obtain ⟨z, hz, rfl⟩ := h
      split at hz
      · cases hz
      · rename_i hb
        simp only [Bool.false_eq_true, if_false, Option.some.injEq] at hz
        cases hz
        exact ⟨.int k (a.fdiv (2 ^ min b.toNat k.bits)), by simp [execOp, ex, ey, go_sem, eqGuard, binOp, Op.shift, hb], rv_int _ _⟩
    · rename_i h1 h2
      split at h
      · rename_i hk
        subst hk
        simp only [Option.map_eq_some_iff] at h
        obtain ⟨z, hz, rfl⟩ := h
        cases op <;> simp only [binI] at hz
        case add => cases hz; exact ⟨_, by simp only [execOp, ex, ey, eqGuard, binOp, Op.intArith]; simp [go_sem], rv_int _ _⟩
        case sub => cases hz; exact ⟨_, by simp only [execOp, ex, ey, eqGuard, binOp, Op.intArith]; simp [go_sem], rv_int _ _⟩
        case mul => cases hz; exact ⟨_, by simp only [execOp, ex, ey, eqGuard, binOp, Op.intArith]; simp [go_sem], rv_int _ _⟩
        case quo =>
          split at hz
          · cases hz
          · rename_i hb; cases hz; exact ⟨_, by simp only [execOp, ex, ey, eqGuard, binOp, Op.intDiv]; simp [go_sem, hb], rv_int _ _⟩
        case rem =>
          split at hz
          · cases hz
          · rename_i hb; cases hz; exact ⟨_, by simp only [execOp, ex, ey, eqGuard, binOp, Op.intDiv]; simp [go_sem, hb], rv_int _ _⟩
        case and => cases hz; exact ⟨_, by simp only [execOp, ex, ey, eqGuard, binOp, Op.intBits]; simp [go_sem]; rfl, rv_int _ _⟩
        case or => cases hz; exact ⟨_, by simp only [execOp, ex, ey, eqGuard, binOp, Op.intBits]; simp [go_sem]; rfl, rv_int _ _⟩
        case xor => cases hz; exact ⟨_, by simp only [execOp, ex, ey, eqGuard, binOp, Op.intBits]; simp [go_sem]; rfl, rv_int _ _⟩
        case andNot => cases hz; exact ⟨_, by simp only [execOp, ex, ey, eqGuard, binOp, Op.intBits]; simp [go_sem]; rfl, rv_int _ _⟩
        case shl => exact absurd rfl h1
        case shr => exact absurd rfl h2
        case eql => cases hz; exact ⟨_, by simp [execOp, ex, ey, go_sem, eqGuard, binOp, Op.intCmp], rv_bool _⟩
        case neq => cases hz; exact ⟨_, by simp [execOp, ex, ey, go_sem, eqGuard, binOp, Op.intCmp], rv_bool _⟩
        case lss => cases hz; exact ⟨_, by simp [execOp, ex, ey, go_sem, eqGuard, binOp, Op.intCmp], rv_bool _⟩
        case leq => cases hz; exact ⟨_, by simp [execOp, ex, ey, go_sem, eqGuard, binOp, Op.intCmp], rv_bool _⟩
        case gtr => cases hz; exact ⟨_, by simp [execOp, ex, ey, go_sem, eqGuard, binOp, Op.intCmp], rv_bool _⟩
        case geq => cases hz; exact ⟨_, by simp [execOp, ex, ey, go_sem, eqGuard, binOp, Op.intCmp], rv_bool _⟩
      · cases h
  · rename_i a b
    have ex := str_of_rv hx
    have ey := str_of_rv hy
    split at h
    · cases h; exact ⟨.bool (a.toList == b.toList), by simp [execOp, ex, ey, go_sem, eqGuard, binOp, Op.stringOp], rv_bool _⟩
    · cases h; exact ⟨.bool (!(a.toList == b.toList)), by simp [execOp, ex, ey, go_sem, eqGuard, binOp, Op.stringOp], rv_bool _⟩
    · split at h
      · rename_i hs
        cases h
        refine ⟨.string (a ++ b), ?_, rv_str _⟩
        have hn : ¬ (((a.size + b.size : Nat) : Int) > IntKind.i64.max) := by
          have : IntKind.i64.max = 9223372036854775807 := by decide
          omega
        simp only [execOp, ex, ey, eqGuard, binOp, Op.stringOp, hn, if_false]
        simp [go_sem]
      · cases h
    · cases h
  · cases h

theorem run_equalIn_bool (w : World) (n : Nat) {t : TypeId} (a b : Bool) (ht : P.underlying t = some .bool) : (Op.equalIn (n + 1) t (.bool a) (.bool b)).run P w = .ok (a == b) w := by
  simp only [Op.equalIn]
  simp [go_sem, run_underlying ht]
theorem run_equal_bool (w : World) {t : TypeId} (a b : Bool) (ht : P.underlying t = some .bool) : (Op.equal t (.bool a) (.bool b)).run P w = .ok (a == b) w :=
  run_equalIn_bool w 9999 a b ht

theorem beq_ok {op : BinOp} {neg : Bool} {t yt : TypeId} {x y : Operand} {a b : Bool} (ht : P.underlying t = some .bool) (ho : op = if neg then .neq else .eql)
    (hx : rv m w O (.d (.bool a)) (ρ x)) (hy : rv m w O (.d (.bool b)) (ρ y)) :
    Yields1 P m w O ρ ⟨d, .binOp op t x y yt, ty, pos, after, g⟩ (.d (.bool (if neg then !(a == b) else a == b))) := by
  have ex := bool_of_rv hx
  have ey := bool_of_rv hy
  subst ho
  have hq := run_equal_bool (P := P) w a b ht
  cases neg
  · refine ⟨.bool (a == b), ?_, rv_bool _⟩
    simp only [execOp, ex, ey, eqGuard, Bool.false_eq_true, if_false, binOp]
    simp [go_sem, hq]
  · refine ⟨.bool (!(a == b)), ?_, rv_bool _⟩
    simp only [execOp, ex, ey, eqGuard, if_true, binOp]
    simp [go_sem, hq]

theorem run_equalIn_nil (w : World) (n : Nat) {t el : TypeId} (a : Option Addr) (ht : P.underlying t = some (.pointer el)) : (Op.equalIn (n + 1) t (.pointer a) (.pointer none)).run P w = .ok a.isNone w := by
  simp only [Op.equalIn]
  cases a with
  | none => simp [go_sem, run_underlying ht]
  | some a => simp [go_sem, run_underlying ht]
theorem run_equal_nil (w : World) {t el : TypeId} (a : Option Addr) (ht : P.underlying t = some (.pointer el)) : (Op.equal t (.pointer a) (.pointer none)).run P w = .ok a.isNone w :=
  run_equalIn_nil w 9999 a ht
theorem pnil_ok {op : BinOp} {neg : Bool} {t el yt : TypeId} {x y : Operand} {a : Option Addr} (ht : P.underlying t = some (.pointer el)) (ho : op = if neg then .neq else .eql)
    (ex : ρ x = .pointer a) (ey : ρ y = .pointer none) :
    Yields1 P m w O ρ ⟨d, .binOp op t x y yt, ty, pos, after, g⟩ (.d (.bool (if neg then !a.isNone else a.isNone))) := by
  subst ho
  have hq := run_equal_nil (P := P) w a ht
  cases neg
  · refine ⟨.bool a.isNone, ?_, rv_bool _⟩
    simp only [execOp, ex, ey, eqGuard, Bool.false_eq_true, if_false, binOp]
    simp [go_sem, hq]
  · refine ⟨.bool (!a.isNone), ?_, rv_bool _⟩
    simp only [execOp, ex, ey, eqGuard, if_true, binOp]
    simp [go_sem, hq]

theorem un_ok {op : UnOp} {t : TypeId} {x : Operand} {u r : V} (hx : rv m w O u (ρ x)) (h : unD op u = some r) :
    Yields1 P m w O ρ ⟨d, .unOp op t x, ty, pos, after, g⟩ r := by
  unfold unD at h
  split at h
  · rename_i k n
    have ex := int_of_rv hx
    split at h
    · cases h; exact ⟨.int k (k.wrap (0 - n)), by simp [execOp, ex, go_sem, Op.unary, Op.intArith], rv_int _ _⟩
    · cases h; exact ⟨_, by simp only [execOp, ex, Op.unary, Op.intBits]; simp [go_sem]; rfl, rv_int _ _⟩
    · cases h
  · rename_i b
    have ex := bool_of_rv hx
    split at h
    · cases h; exact ⟨.bool (!b), by simp [execOp, ex, go_sem, Op.unary], rv_bool _⟩
    · cases h
  · cases h

theorem conv_ok {src dst : TypeId} {k k' k'' : IntKind} {n : Int} {x : Operand} (hs : P.underlying src = some (.int k'')) (hd : P.underlying dst = some (.int k)) (hx : rv m w O (.d (.int k' n)) (ρ x)) :
    Yields1 P m w O ρ ⟨d, .convert src dst x, ty, pos, after, g⟩ (.d (.int k (k.wrap n))) := by
  have ex := int_of_rv hx
  refine ⟨.int k (k.wrap n), ?_, rv_int _ _⟩
  simp only [execOp, ex, convert]
  simp [go_sem, run_underlying hs, run_underlying hd, Conv.intToInt]

theorem add_none (b off n : Nat) : (⟨b, off, none⟩ : Addr).add n = ⟨b, off + n, none⟩ := by
  unfold Addr.add
  split
  · rename_i h; subst h; rfl
  · rfl

/-- Cells of a block, from a place on, read as data. -/
def At (w : World) (O : Cells) (b off : Nat) (l : List D) : Prop :=
  ∀ (i : Nat) (d : D), l[i]? = some d → d.one = true ∧ ∃ y, w.cell? ⟨b, off + i, none⟩ = some y ∧ rd w O d y

theorem At.of_rdC : ∀ {off : Nat} {b : Nat} {l : List D}, rdC w O b off l → At w O b off l
  | _, _, [], _ => fun i d h => by simp at h
  | off, b, x :: r, h => by
    simp only [rdC] at h
    obtain ⟨_, ⟨y, h2, h3, h4⟩, h5⟩ := h
    intro i d hd
    cases i with
    | zero => simp at hd; subst hd; exact ⟨h3, y, h2, h4⟩
    | succ i =>
      have := At.of_rdC h5 i d (by simpa using hd)
      rwa [show off + 1 + i = off + (i + 1) by omega] at this
theorem At.of_rdB {g : Nat} {l : List D} {arr : Array Value} {T : TypeId} {z : Nat × Nat} (h : rdB w O l arr) (hw : w.heap[g]? = some (.cells arr T z)) : At w O g 0 l := by
  intro i d hd
  obtain ⟨h1, y, h2, h3⟩ := h i d hd
  exact ⟨h1, y, by simp [World.cell?, hw, h2], h3⟩
theorem At.drop {b off : Nat} {l : List D} (h : At w O b off l) (i : Nat) : At w O b (off + i) (l.drop i) := by
  intro j d hd
  have := h (i + j) d (by simpa using hd)
  rwa [Nat.add_assoc]
theorem At.take {b off : Nat} {l : List D} (h : At w O b off l) (i : Nat) : At w O b off (l.take i) := by
  intro j d hd
  refine h j d ?_
  rw [List.getElem?_take] at hd
  split at hd <;> first | exact hd | cases hd

theorem run_loadCellsFrom (a : Addr) : ∀ (n i : Nat) (acc : Array Value) (ys : List Value), ys.length = n → (∀ j y, ys[j]? = some y → w.cell? (a.add (i + j)) = some y) →
    (loadCellsFrom a i n acc).run P w = .ok (acc ++ ys.toArray) w
  | 0, i, acc, ys, hl, _ => by
    obtain rfl : ys = [] := by simpa using hl
    simp [loadCellsFrom, go_sem]
  | n + 1, i, acc, [], hl, _ => by simp at hl
  | n + 1, i, acc, y :: r, hl, h => by
    have h0 := h 0 y (by simp)
    have := run_loadCellsFrom a n (i + 1) (acc.push y) r (by simpa using hl) (fun j z hz => by
      have := h (j + 1) z (by simpa using hz)
      rwa [show i + 1 + j = i + (j + 1) by omega])
    simp only [loadCellsFrom]
    simp only [Nat.add_zero] at h0
    simp [go_sem, h0, this]

theorem At.list {b off : Nat} {l : List D} (h : At w O b off l) : ∃ ys : List Value, ys.length = l.length ∧ (∀ j y, ys[j]? = some y → w.cell? ⟨b, off + j, none⟩ = some y) ∧ rdL w O l ys := by
  induction l generalizing off with
  | nil => exact ⟨[], rfl, by simp, by simp [rdL]⟩
  | cons x r ih =>
    obtain ⟨h1, y, h2, h3⟩ := h 0 x (by simp)
    obtain ⟨ys, h4, h5, h6⟩ := ih (off := off + 1) (by have := h.drop 1; simpa using this)
    refine ⟨y :: ys, by simp [h4], ?_, ?_⟩
    · intro j z hz
      cases j with
      | zero => simp at hz; subst hz; exact h2
      | succ j => have := h5 j z (by simpa using hz); rwa [show off + 1 + j = off + (j + 1) by omega] at this
    · simp only [rdL]; exact ⟨y, ys, rfl, h1, h3, h6⟩

theorem run_loadVar {agg : Bool} {n b off : Nat} {l : List D} {i : Nat} {x : D} {t : TypeId} (h : At w O b off l) (hv : view agg n l i = some x) (hg : isAggT P t = some agg) (hn : szOf P t = some n) :
    ∃ y, (loadVar t ⟨b, off + i, none⟩).run P w = .ok y w ∧ rd w O x y := by
  unfold view at hv
  have hi : ∃ f, P.info? t = some f ∧ f.size = n := by simpa [szOf] using hn
  obtain ⟨f, hi, hf⟩ := hi
  have hag : (isAgg t).run P w = .ok agg w := by
    unfold isAggT at hg
    unfold isAgg
    cases hu : P.underlying t with
    | none => simp [hu] at hg
    | some u =>
      simp only [hu] at hg
      have := run_underlying (w := w) hu
      cases u <;> simp at hg <;> subst hg <;> simp [go_sem, this]
  cases agg with
  | true =>
    simp only [if_true] at hv
    split at hv
    · rename_i hle
      cases hv
      obtain ⟨ys, h1, h2, h3⟩ := ((h.drop i).take n).list
      have := run_loadCellsFrom (P := P) (w := w) ⟨b, off + i, none⟩ n 0 #[] ys (by rw [h1]; simp; omega) (fun j y hy => by rw [add_none, Nat.zero_add]; exact h2 j y hy)
      refine ⟨.agg ⟨ys⟩, ?_, ?_⟩
      · simp [loadVar, loadCells, go_sem, hag, sizeOf, typeInfo, hi, hf, this]
      · simp only [rd]; exact ⟨ys, rfl, h3⟩
    · cases hv
  | false =>
    simp only [Bool.false_eq_true, if_false] at hv
    obtain ⟨h1, y, h2, h3⟩ := h i x hv
    exact ⟨y, by simp [loadVar, go_sem, hag, h2], h3⟩

theorem ld_ok {t : TypeId} {x : Operand} {agg : Bool} {n b off : Nat} {l : List D} {i : Nat} {z : D} (hx : ρ x = .pointer (some ⟨b, off + i, none⟩)) (h : At w O b off l) (hv : view agg n l i = some z)
    (hg : isAggT P t = some agg) (hn : szOf P t = some n) : Yields1 P m w O ρ ⟨d, .load t x, ty, pos, after, g⟩ (.d z) := by
  obtain ⟨y, h1, h2⟩ := run_loadVar h hv hg hn
  exact ⟨y, by simp only [execOp, hx, Instr.loadAt, Instr.sureAddr, Sem.run_bind, Sem.run_pure, Result.andThen_ok, h1], h2⟩

theorem fA_ok {t : TypeId} {x : Operand} {b o f : Nat} {fs : Array Field} {fd : Field} {n : Nat} (hx : ρ x = .pointer (some ⟨b, o, none⟩)) (ht : P.underlying t = some (.struct fs)) (hf : fs[f]? = some fd) (hn : szOf P fd.type = some n) (h0 : n ≠ 0) :
    (execOp ρ ⟨d, .fieldAddr t x f, ty, pos, after, g⟩).run P w = .ok (.value (.pointer (some ⟨b, o + fd.offset, none⟩))) w := by
  have hi : ∃ i, P.info? fd.type = some i ∧ i.size = n := by simpa [szOf] using hn
  obtain ⟨i, hi, rfl⟩ := hi
  simp [execOp, hx, go_sem, Instr.fieldAt, Instr.sureAddr, run_underlying ht, hf, fieldPlace, sizeOf, typeInfo, hi, h0, add_none]

theorem rdL_get : ∀ {l : List D} {ys : List Value}, rdL w O l ys → ys.length = l.length ∧ ∀ (i : Nat) (x : D), l[i]? = some x → x.one = true ∧ ∃ y, ys[i]? = some y ∧ rd w O x y
  | [], ys, h => by simp only [rdL] at h; subst h; simp
  | x :: r, ys, h => by
    simp only [rdL] at h
    obtain ⟨y, t, rfl, h1, h2, h3⟩ := h
    obtain ⟨h4, h5⟩ := rdL_get h3
    refine ⟨by simp [h4], fun i z hz => ?_⟩
    cases i with
    | zero => simp at hz; subst hz; exact ⟨h1, y, rfl, h2⟩
    | succ i => simpa using h5 i z (by simpa using hz)
theorem rdL_of : ∀ {l : List D} {ys : List Value}, ys.length = l.length → (∀ (i : Nat) (x : D), l[i]? = some x → x.one = true ∧ ∃ y, ys[i]? = some y ∧ rd w O x y) → rdL w O l ys
  | [], [], _, _ => by simp [rdL]
  | [], _ :: _, h, _ => by simp at h
  | _ :: _, [], h, _ => by simp at h
  | x :: r, y :: t, h, H => by
    simp only [rdL]
    obtain ⟨h1, z, hz, h2⟩ := H 0 x (by simp)
    simp at hz
    subst hz
    refine ⟨y, t, rfl, h1, h2, rdL_of (by simpa using h) fun i u hu => ?_⟩
    have := H (i + 1) u (by simpa using hu)
    simpa using this

theorem run_part {t : TypeId} {agg : Bool} {n off : Nat} {l : List D} {ys : List Value} {x : D} (h : rdL w O l ys) (hv : view agg n l off = some x) (hg : isAggT P t = some agg) (hn : szOf P t = some n) :
    ∃ y, (part t ⟨ys⟩ off).run P w = .ok y w ∧ rd w O x y := by
  obtain ⟨hl, H⟩ := rdL_get h
  have hi : ∃ f, P.info? t = some f ∧ f.size = n := by simpa [szOf] using hn
  obtain ⟨f, hi, rfl⟩ := hi
  have hag : (isAgg t).run P w = .ok agg w := by
    unfold isAggT at hg
    unfold isAgg
    cases hu : P.underlying t with
    | none => simp [hu] at hg
    | some u =>
      simp only [hu] at hg
      have := run_underlying (w := w) hu
      cases u <;> simp at hg <;> subst hg <;> simp [go_sem, this]
  unfold view at hv
  cases agg with
  | true =>
    simp only [if_true] at hv
    split at hv
    · rename_i hle
      cases hv
      refine ⟨.agg ⟨(ys.drop off).take f.size⟩, ?_, ?_⟩
      · simp [part, go_sem, hag, sizeOf, typeInfo, hi]
      · simp only [rd]
        refine ⟨_, rfl, rdL_of (by simp [hl]) fun i u hu => ?_⟩
        rw [List.getElem?_take] at hu ⊢
        split at hu
        · rename_i hlt
          rw [if_pos hlt]
          rw [List.getElem?_drop] at hu ⊢
          exact H (off + i) u hu
        · cases hu
    · cases hv
  | false =>
    simp only [Bool.false_eq_true, if_false] at hv
    obtain ⟨_, y, h2, h3⟩ := H off x hv
    exact ⟨y, by simp [part, go_sem, hag, h2], h3⟩


theorem At.rdC {g off : Nat} {l : List D} (h : At w O g off l) (hO : ∀ i, i < l.length → ¬ O g (off + i)) : rdC w O g off l := by
  induction l generalizing off with
  | nil => simp [R.rdC]
  | cons x r ih =>
    simp only [R.rdC]
    obtain ⟨h1, y, h2, h3⟩ := h 0 x (by simp)
    refine ⟨hO 0 (by simp), ⟨y, h2, h1, h3⟩, ih (off := off + 1) (by have := h.drop 1; simpa using this) fun i hi => ?_⟩
    have := hO (i + 1) (by simpa using hi)
    rwa [show off + 1 + i = off + (i + 1) by omega]
theorem rdC_not : ∀ {off g : Nat} {l : List D}, rdC w O g off l → ∀ i, i < l.length → ¬ O g (off + i)
  | _, _, [], _ => fun i h => by simp at h
  | off, g, x :: r, h => by
    simp only [rdC] at h
    intro i hi
    cases i with
    | zero => exact h.1
    | succ i => have := rdC_not h.2.2 i (by simpa using hi); rwa [show off + 1 + i = off + (i + 1) by omega] at this

theorem rdC_sub {g off : Nat} {l : List D} (h : rdC w O g off l) (i n : Nat) : rdC w O g (off + i) ((l.drop i).take n) := by
  refine (((At.of_rdC h).drop i).take n).rdC fun j hj => ?_
  have hlt : i + j < l.length := by simp at hj; omega
  have := rdC_not h (i + j) hlt
  rwa [Nat.add_assoc]

theorem szOf_info {t n : Nat} (h : szOf P t = some n) : ∃ i, P.info? t = some i ∧ i.size = n := by simpa [szOf] using h

theorem run_natOf {v : V} {y : Value} {i : Nat} (h : rv m w O v y) (hn : natOf v = some i) : ∃ k : IntKind, y = .int k (i : Int) := by
  unfold natOf at hn
  split at hn
  · split at hn
    · rename_i k n h0
      cases hn
      have := int_of_rv h
      refine ⟨k, ?_⟩
      rw [this]
      congr 1
      omega
    · cases hn
  · cases hn

theorem iA_sl_ok {t e : TypeId} {x y : Operand} {k i : Nat} {l : List D} {kk : IntKind} (ht : P.underlying t = some (.slice e)) (hs : szOf P e = some k) (hx : rv m w O (.d (.sl k l)) (ρ x)) (hy : ρ y = .int kk (i : Int)) (hi : (i + 1) * k ≤ l.length) :
    Yields1 P m w O ρ ⟨d, .indexAddr t x y, ty, pos, after, g⟩ (.cp l (i * k)) := by
  obtain ⟨f, hf, hfk⟩ := szOf_info hs
  simp only [rv, rv1, rd] at hx
  obtain ⟨a, n, c, hx, hk, hn, hl, hr⟩ := hx
  have hlt : i < n := by
    rw [← hl] at hi
    exact Nat.lt_of_succ_le (Nat.le_of_mul_le_mul_right hi (Nat.pos_of_ne_zero hk))
  have hne : l ≠ [] := by
    rintro rfl
    have h0 : n * k = 0 := by simpa using hl
    rcases Nat.mul_eq_zero.1 h0 with h0 | h0
    · omega
    · exact hk h0
  obtain ⟨b, off, ha, hr'⟩ := hr.resolve_left hne
  subst ha
  refine ⟨.pointer (some ⟨b, off + i * k, none⟩), ?_, ?_⟩
  · simp [execOp, hx, hy, go_sem, Instr.indexAt, run_underlying ht, sizeOf, typeInfo, hf, hfk, add_none, hlt]
  · simp only [rv, rv1]; exact ⟨b, off, rfl, hr'⟩

theorem iA_own_ok {t e : TypeId} {x y : Operand} {b k off n i : Nat} {kk : IntKind} (ht : P.underlying t = some (.slice e)) (hs : szOf P e = some k) (hx : rv m w O (.own b k off n) (ρ x)) (hy : ρ y = .int kk (i : Int)) (hi : i < n) :
    Yields1 P m w O ρ ⟨d, .indexAddr t x y, ty, pos, after, g⟩ (.ptr b (off + i * k)) := by
  obtain ⟨f, hf, hfk⟩ := szOf_info hs
  simp only [rv, rv1] at hx
  obtain ⟨hk, hx⟩ := hx
  cases hm : m b with
  | none => simp only [hm] at hx; omega
  | some p =>
    obtain ⟨gg, sz⟩ := p
    simp only [hm] at hx
    obtain ⟨o, c, hx, h1, h2, h3⟩ := hx
    obtain rfl : o = off := h2.resolve_left (by omega)
    refine ⟨.pointer (some ⟨gg, o + i * k, none⟩), ?_, ?_⟩
    · simp [execOp, hx, hy, go_sem, Instr.indexAt, run_underlying ht, sizeOf, typeInfo, hf, hfk, add_none, hi]
    · simp only [rv, rv1]; exact ⟨gg, sz, hm, rfl⟩

theorem aA_ok {t e : TypeId} {x y : Operand} {b k o i len : Nat} {kk : IntKind} (ht : P.underlying t = some (.array len e)) (hs : szOf P e = some k) (hx : ρ x = .pointer (some ⟨b, o, none⟩)) (hy : ρ y = .int kk (i : Int)) (hi : i < len) :
    (execOp ρ ⟨d, .indexAddr t x y, ty, pos, after, g⟩).run P w = .ok (.value (.pointer (some ⟨b, o + i * k, none⟩))) w := by
  obtain ⟨f, hf, hfk⟩ := szOf_info hs
  simp [execOp, hx, hy, go_sem, Instr.indexAt, Instr.sureAddr, run_underlying ht, sizeOf, typeInfo, hf, hfk, add_none, hi]

theorem iV_ok {t e : TypeId} {x y : Operand} {k i len : Nat} {agg : Bool} {l : List D} {z : D} {kk : IntKind} (ht : P.underlying t = some (.array len e)) (hs : szOf P e = some k) (hg : isAggT P e = some agg) (hx : rv m w O (.d (.ag l)) (ρ x)) (hy : ρ y = .int kk (i : Int)) (hi : i < len) (hv : view agg k l (i * k) = some z) :
    Yields1 P m w O ρ ⟨d, .index t x y, ty, pos, after, g⟩ (.d z) := by
  obtain ⟨f, hf, hfk⟩ := szOf_info hs
  simp only [rv, rv1, rd] at hx
  obtain ⟨ys, hx, hr⟩ := hx
  obtain ⟨u, h1, h2⟩ := run_part (P := P) hr hv hg hs
  refine ⟨u, ?_, h2⟩
  have hsz : (sizeOf e).run P w = .ok k w := by simp [sizeOf, typeInfo, go_sem, hf, hfk]
  simp only [execOp, hx, hy, Instr.index, asIntOf, Sem.run_bind, Sem.run_pure, Result.andThen_ok, run_underlying ht]
  rw [if_pos ⟨by omega, by omega⟩]
  simp only [Sem.run_bind, hsz, Result.andThen_ok, Int.toNat_natCast, h1, Sem.run_pure]

theorem sI_ok {t : TypeId} {x y : Operand} {i : Nat} {s : ByteArray} {b : UInt8} {kk : IntKind} (ht : P.underlying t = some .string) (hx : ρ x = .string s) (hy : ρ y = .int kk (i : Int)) (hb : s[i]? = some b) :
    Yields1 P m w O ρ ⟨d, .index t x y, ty, pos, after, g⟩ (.d (.int .u8 b.toNat)) := by
  refine ⟨_, ?_, rv_int _ _⟩
  simp only [execOp, hx, hy, Instr.index, asIntOf, Sem.run_bind, Sem.run_pure, Result.andThen_ok, run_underlying ht]
  rw [if_pos (by omega)]
  simp only [Int.toNat_natCast, hb, Sem.run_pure, Result.andThen_ok]

theorem fV_ok {t : TypeId} {x : Operand} {f n : Nat} {fs : Array Field} {fd : Field} {agg : Bool} {l : List D} {z : D} (ht : P.underlying t = some (.struct fs)) (hf : fs[f]? = some fd) (hn : szOf P fd.type = some n) (hg : isAggT P fd.type = some agg)
    (hx : rv m w O (.d (.ag l)) (ρ x)) (hv : view agg n l fd.offset = some z) : Yields1 P m w O ρ ⟨d, .field t x f, ty, pos, after, g⟩ (.d z) := by
  simp only [rv, rv1, rd] at hx
  obtain ⟨ys, hx, hr⟩ := hx
  obtain ⟨u, h1, h2⟩ := run_part (P := P) hr hv hg hn
  refine ⟨u, ?_, h2⟩
  simp only [execOp, hx, Instr.field, asAgg, Sem.run_bind, Sem.run_pure, Result.andThen_ok, run_underlying ht, hf, h1]

theorem ln_sl_ok {t e : TypeId} {tl : List TypeId} {x : Operand} {k : Nat} {l : List D} (ht : P.underlying t = some (.slice e)) (hx : rv m w O (.d (.sl k l)) (ρ x)) :
    Yields1 P m w O ρ ⟨d, .call { callee := .builtin .len, args := #[x], argTypes := ⟨t :: tl⟩ }, ty, pos, after, g⟩ (.d (.int .i64 ((l.length / k : Nat) : Int))) := by
  simp only [rv, rv1, rd] at hx
  obtain ⟨a, n, c, hx, hk, hn, hl, hr⟩ := hx
  have : l.length / k = n := by rw [← hl]; exact Nat.mul_div_cancel _ (Nat.pos_of_ne_zero hk)
  refine ⟨.int .i64 n, ?_, by rw [this]; exact rv_int _ _⟩
  simp [execOp, resolve, invoke, builtin, Builtin.len_, hx, go_sem, run_underlying ht, goInt]
end
end Go.Proofs.R

/- Operands, literals, slices; each operation that writes nothing. -/
namespace Go.Proofs.R
open Go Go.RowKit
set_option linter.unusedSimpArgs false

section
variable {P : Program} {m : Nat → Option (Nat × Nat)} {w : World} {O : Cells} {ρ : Operand → Value} {d : Option Tmp} {ty : TypeId} {pos : String} {after : Array Edge} {g : Option (Nat × Bool)}

theorem fits_rd {x : D} {y : Value} (h : fits x y = true) : rd w O x y := by
  unfold fits at h
  split at h
  · simp at h; simp [rd, h]
  · simp at h; subst h; simp [rd]
  · rename_i s t
    cases s; cases t; simp at h; subst h; simp [rd]
  · simp at h; simp only [rd]; exact ⟨none, 0, 0, rfl, h, Nat.le_refl _, by simp, by simp⟩
  · simp [rd, rawOk]
  · simp [rd, rawOk]
  · simp [rd, rawOk]
  · simp [rd, rawOk]
  · simp only [rd, true_and]; rfl
  · cases h
theorem fits_one {x : D} {y : Value} (h : fits x y = true) : x.one = true := by
  unfold fits at h
  split at h <;> first | rfl | cases h
theorem fitsL_rd : ∀ {l : List D} {ys : List Value}, fitsL l ys = true → rdL w O l ys
  | [], [], _ => by simp [rdL]
  | [], _ :: _, h => by simp [fitsL] at h
  | _ :: _, [], h => by simp [fitsL] at h
  | x :: r, y :: t, h => by
    simp only [fitsL, Bool.and_eq_true] at h
    simp only [rdL]
    exact ⟨y, t, rfl, fits_one h.1, fits_rd h.1, fitsL_rd h.2⟩

theorem zeroD_ok {t : TypeId} {l : List D} (h : zeroD P t = some l) : ∃ i z, P.info? t = some i ∧ i.zero = some z ∧ l.length = i.size ∧ ∀ (w : World) (O : Cells), rdL w O l z.cells.toList := by
  unfold zeroD at h
  simp only [Option.bind_eq_some_iff] at h
  obtain ⟨l', _, i, hi, z, hz, h⟩ := h
  split at h
  · rename_i hf
    cases h
    simp only [Bool.and_eq_true, beq_iff_eq] at hf
    exact ⟨i, z, hi, hz, hf.2, fun _ _ => fitsL_rd hf.1⟩
  · cases h

theorem zeroR_ok {t : TypeId} {l : List D} (h : zeroR P t = some l) : ∃ i z, P.info? t = some i ∧ i.zero = some z ∧ l.length = i.size ∧ ∀ (w : World) (O : Cells), rdL w O l z.cells.toList := by
  unfold zeroR at h
  simp only [Option.bind_eq_some_iff] at h
  obtain ⟨l', _, i, hi, z, hz, h⟩ := h
  split at h
  · rename_i hf
    cases h
    simp only [Bool.and_eq_true, beq_iff_eq] at hf
    exact ⟨i, z, hi, hz, hf.2, fun _ _ => fitsL_rd hf.1⟩
  · cases h

theorem constD_rd {t : TypeId} {y : Value} {x : D} (h : constD P t y = some x) : rd w O x y := by
  unfold constD at h
  split at h
  · cases h; simp [rd]
  · cases h; simp [rd]
  · cases h; simp [rd]
  · split at h
    · simp only [Option.bind_eq_some_iff] at h
      obtain ⟨k, _, h⟩ := h
      split at h
      · cases h
      · rename_i hk
        cases h
        simp only [rd]
        exact ⟨none, 0, 0, rfl, hk, Nat.le_refl _, by simp, by simp⟩
    · cases h
  · cases h; simp [rd, rawOk]
  · cases h; simp [rd, rawOk]
  · cases h; simp [rd, rawOk]
  · cases h; simp [rd, rawOk]
  · cases h

/-- The temporaries read as the environment says. -/
def EnvOk (m : Nat → Option (Nat × Nat)) (w : World) (O : Cells) (e : Env) (ρ : Operand → Value) : Prop :=
  (∀ t v, aget e t = some v → rv m w O v (ρ (.tmp t))) ∧ ∀ v, ρ (.const v) = v

variable {e : Env} {μ : Mem}

theorem ev_ok (he : EnvOk m w O e ρ) {t : TypeId} {x : Operand} {x' : X} {v : V} (hc : cX P t x = some x') (hv : x'.ev e = some v) : rv m w O v (ρ x) := by
  unfold cX at hc
  split at hc
  · cases hc; exact he.1 _ _ hv
  · simp only [Option.map_eq_some_iff] at hc
    obtain ⟨z, hz, rfl⟩ := hc
    simp only [X.ev, Option.some.injEq] at hv
    subst hv
    rw [he.2]
    exact constD_rd hz
  · cases hc

/-- What is given away of a block of the call's own is not owned. -/
structure MemOk (m : Nat → Option (Nat × Nat)) (w : World) (O : Cells) (μ : Mem) : Prop where
  blk : ∀ b B g s, aget μ b = some B → m b = some (g, s) → At w O g 0 B.cells ∧ (∀ i, i < B.pub → ¬ O g i) ∧ B.cells.length ≤ s
  ref : ∀ b, 1099511627776 ≤ b → (aget μ b).isSome = true → O.ref b = .live (m b)

theorem toD_rd (hμ : MemOk m w O μ) {v : V} {x : D} {y : Value} (h : rv m w O v y) (hd : toD μ v = some x) : rd w O x y := by
  unfold toD at hd
  split at hd
  · cases hd; exact h
  · rename_i b k off n
    split at hd
    · rename_i hhb
      split at hd
      · rename_i hhs
        cases hd
        simp only [rd]
        rw [hμ.ref b hhb hhs]
        exact h
      · cases hd
    split at hd
    · rename_i B hB
      split at hd
      · rename_i hle
        cases hd
        simp only [rv, rv1] at h
        obtain ⟨hk, h⟩ := h
        cases hm : m b with
        | none =>
          simp only [hm] at h
          obtain ⟨rfl, rfl, rfl⟩ := h
          simp only [rd]
          exact ⟨none, 0, 0, rfl, hk, Nat.le_refl _, by simp, .inl (by simp)⟩
        | some p =>
          obtain ⟨gg, s⟩ := p
          simp only [hm] at h
          obtain ⟨o, c, rfl, h1, h2, h3⟩ := h
          obtain ⟨h4, h5, _⟩ := hμ.blk b B gg s hB hm
          simp only [rd]
          refine ⟨some ⟨gg, o, none⟩, n, c, rfl, hk, h1, by simp; omega, ?_⟩
          rcases h2 with rfl | rfl
          · have : n = 0 := by omega
            subst this
            exact .inl (by simp)
          · refine .inr ⟨gg, o, rfl, ?_⟩
            refine At.rdC ?_ ?_
            · have := (h4.drop o).take (n * k)
              rwa [Nat.zero_add] at this
            · intro i hi
              refine h5 _ ?_
              simp at hi
              omega
      · cases hd
    · cases hd
  · cases hd

theorem one_cells {y : Value} (h : oneCell y = true) : y.cells = #[y] := by cases y <;> first | rfl | cases h
theorem rd_cells {x : D} {y : Value} (h : rd w O x y) : rdL w O x.cells y.cells.toList := by
  cases x with
  | ag l => simp only [rd] at h; obtain ⟨ys, rfl, h⟩ := h; exact h
  | int k n => simp only [rd] at h; subst h; simp [D.cells, Value.cells, rdL, rd, D.one]
  | bool b => simp only [rd] at h; subst h; simp [D.cells, Value.cells, rdL, rd, D.one]
  | str b => simp only [rd] at h; subst h; simp [D.cells, Value.cells, rdL, rd, D.one]
  | raw v =>
    have h' := h
    simp only [rd] at h
    obtain ⟨rfl, h⟩ := h
    have : y.cells = #[y] := by unfold rawOk at h; split at h <;> first | rfl | cases h
    rw [this]
    simp [D.cells, rdL, D.one, h']
  | sl k l =>
    have h' := h
    simp only [rd] at h
    obtain ⟨a, n, c, rfl, _⟩ := h
    simp [D.cells, Value.cells, rdL, D.one, h']
  | ref c k off n =>
    have h' := h
    simp only [rd] at h
    rw [one_cells (onRef_one h)]
    simp [D.cells, rdL, D.one, h']

theorem rdL_length {l : List D} {ys : List Value} (h : rdL w O l ys) : ys.length = l.length := (rdL_get h).1

theorem rdL_set {l : List D} {ys : List Value} {x : D} {y : Value} (h : rdL w O l ys) (i : Nat) (h1 : x.one = true) (h2 : rd w O x y) : rdL w O (l.set i x) (ys.set i y) := by
  obtain ⟨hl, H⟩ := rdL_get h
  refine rdL_of (by simp [hl]) fun j z hz => ?_
  rw [List.getElem?_set] at hz ⊢
  by_cases hij : i = j
  · subst hij
    simp only [if_true] at hz ⊢
    split at hz
    · rename_i hlt
      cases hz
      rw [if_pos (by omega)]
      exact ⟨h1, y, rfl, h2⟩
    · cases hz
  · rw [if_neg hij] at hz ⊢
    exact H j z hz

theorem setAt_ok : ∀ {ds l : List D} {zs ys : List Value} (i s : Nat), rdL w O ds zs → rdL w O l ys →
    rdL w O (setAt l (i + s) ds) ((zs.zipIdx s).foldl (fun cs (p : Value × Nat) => cs.set (i + p.2) p.1) ys)
  | [], l, zs, ys, i, s, hd, hl => by
    simp only [rdL] at hd
    subst hd
    simpa [setAt] using hl
  | x :: r, l, zs, ys, i, s, hd, hl => by
    simp only [rdL] at hd
    obtain ⟨z, t, rfl, h1, h2, h3⟩ := hd
    simp only [setAt, List.zipIdx_cons, List.foldl_cons]
    exact setAt_ok i (s + 1) h3 (rdL_set hl (i + s) h1 h2)

theorem foldl_toList (zs : List (Value × Nat)) (i : Nat) : ∀ (cs : Array Value),
    (zs.foldl (fun cs (p : Value × Nat) => cs.setIfInBounds (i + p.2) p.1) cs).toList = zs.foldl (fun cs (p : Value × Nat) => cs.set (i + p.2) p.1) cs.toList := by
  induction zs with
  | nil => intro cs; rfl
  | cons p r ih => intro cs; simp only [List.foldl_cons]; rw [ih]; simp

theorem setAt_length {α : Type} : ∀ (ds l : List α) (i : Nat), (setAt l i ds).length = l.length
  | [], _, _ => rfl
  | x :: r, l, i => by simp only [setAt]; rw [setAt_length r]; simp

/-- A literal's parts. -/
theorem fill_ok (he : EnvOk m w O e ρ) (hμ : MemOk m w O μ) {place : Nat → Option (Nat × Nat × TypeId)} {pl : Nat → Option (Nat × Nat)} (hpl : ∀ i off n t, place i = some (off, n, t) → pl i = some (off, n)) :
    ∀ (parts : List (Nat × Operand)) (ps : List (Nat × Nat × X)) (cs : List D) (out : List D) (arr : Array Value), cParts P place parts = some ps → fillD e μ ps cs = some out → rdL w O cs arr.toList →
      ∃ arr', Instr.fill pl arr (parts.map fun p => (p.1, ρ p.2)) = some arr' ∧ rdL w O out arr'.toList
  | [], ps, cs, out, arr, hc, hf, hr => by
    simp only [cParts, Option.some.injEq] at hc
    subst hc
    simp only [fillD, Option.some.injEq] at hf
    subst hf
    exact ⟨arr, rfl, hr⟩
  | (i, x) :: r, ps, cs, out, arr, hc, hf, hr => by
    simp only [cParts, Option.bind_eq_some_iff, Option.map_eq_some_iff] at hc
    obtain ⟨⟨off, n, t⟩, hp, a, ha, l, hl, rfl⟩ := hc
    simp only [fillD, Option.bind_eq_some_iff] at hf
    obtain ⟨v, hv, z, hz, hf⟩ := hf
    split at hf
    · rename_i hle
      have hrd := toD_rd hμ (ev_ok he ha hv) hz
      have hcs := rd_cells hrd
      have hlen := rdL_length hcs
      have hal := rdL_length hr
      have hstep := setAt_ok off 0 hcs hr
      obtain ⟨arr', h1, h2⟩ := fill_ok he hμ hpl r l _ out (((ρ x).cells.toList.zipIdx 0).foldl (fun cs (p : Value × Nat) => cs.setIfInBounds (off + p.2) p.1) arr) hl hf (by rw [foldl_toList]; simpa using hstep)
      refine ⟨arr', ?_, h2⟩
      have hsz : (ρ x).cells.size = n := by rw [← hle.1, ← hlen]; simp
      have hasz : off + n ≤ arr.size := by rw [← Array.length_toList, hal]; exact hle.2
      simp only [List.map_cons, Instr.fill, hpl i off n t hp]
      rw [if_neg (by simp [hsz]; omega)]
      rw [← h1]
      congr 1
      rw [← Array.foldl_toList]
      simp
    · cases hf
end
end Go.Proofs.R

/- Each operation that turns nothing. -/
namespace Go.Proofs.R
open Go Go.RowKit
set_option linter.unusedSimpArgs false

section
variable {P : Program} {m : Nat → Option (Nat × Nat)} {w : World} {O : Cells} {ρ : Operand → Value} {d : Option Tmp} {ty : TypeId} {pos : String} {after : Array Edge} {g : Option (Nat × Bool)}
variable {e : Env} {μ : Mem}

/-- Does an operation make a block in the model? -/
def J.lays : J → Bool
  | .new _ | .lit _ _ _ _ => true
  | _ => false

theorem run_sliceBound {y : Value} {i z : Nat} {kk : IntKind} {code : BoundsCode} (hy : y = .int kk (i : Int)) (hi : i ≤ z) : (Instr.sliceBound y z code).run P w = .ok i w := by
  subst hy
  simp only [Instr.sliceBound, asIntOf, Sem.run_bind, Sem.run_pure, Result.andThen_ok]
  rw [if_pos ⟨by omega, by omega⟩]
  simp [Sem.run_pure]

theorem evO_ok (he : EnvOk m w O e ρ) {x : Option Operand} {x' : Option X} {dflt i : Nat} (hc : cOX P 0 x = some x') (hv : evO e dflt x' = some i) :
    (x = none ∧ i = dflt) ∨ ∃ o kk, x = some o ∧ ρ o = .int kk (i : Int) := by
  cases x with
  | none => simp only [cOX, Option.some.injEq] at hc; subst hc; simp only [evO, Option.some.injEq] at hv; exact .inl ⟨rfl, hv.symm⟩
  | some o =>
    simp only [cOX, Option.map_eq_some_iff] at hc
    obtain ⟨x1, h1, rfl⟩ := hc
    simp only [evO, Option.bind_eq_some_iff] at hv
    obtain ⟨v, h2, h3⟩ := hv
    obtain ⟨kk, h4⟩ := run_natOf (ev_ok he h1 h2) h3
    exact .inr ⟨o, kk, rfl, h4⟩

theorem run_sliceBounds (he : EnvOk m w O e ρ) {lo hi : Option Operand} {lo' hi' : Option X} {len cap l h : Nat} {isS : Bool} (h1 : cOX P 0 lo = some lo') (h2 : cOX P 0 hi = some hi') (h3 : evO e len hi' = some h) (h4 : evO e 0 lo' = some l)
    (hlh : l ≤ h) (hc : h ≤ cap) : (Instr.sliceBounds isS len cap (lo.map ρ) (hi.map ρ) none).run P w = .ok (l, h, cap) w := by
  unfold Instr.sliceBounds
  have e1 := evO_ok he h2 h3
  have e2 := evO_ok he h1 h4
  rcases e1 with ⟨rfl, rfl⟩ | ⟨o1, k1, rfl, e1⟩ <;> rcases e2 with ⟨rfl, rfl⟩ | ⟨o2, k2, rfl, e2⟩
  · simp [go_sem]
  · have := run_sliceBound (P := P) (w := w) (code := .sliceB) e2 hlh
    simp [go_sem, this]
  · have := run_sliceBound (P := P) (w := w) (code := if isS = true then .sliceAcap else .sliceAlen) e1 hc
    simp [go_sem, this]
  · have t1 := run_sliceBound (P := P) (w := w) (code := if isS = true then .sliceAcap else .sliceAlen) e1 hc
    have t2 := run_sliceBound (P := P) (w := w) (code := .sliceB) e2 hlh
    simp [go_sem, t1, t2]

theorem slc_sl_ok (he : EnvOk m w O e ρ) {t el : TypeId} {x : Operand} {lo hi : Option Operand} {lo' hi' : Option X} {k l h : Nat} {L : List D} (ht : P.underlying t = some (.slice el)) (hs : szOf P el = some k)
    (hx : rv m w O (.d (.sl k L)) (ρ x)) (h1 : cOX P 0 lo = some lo') (h2 : cOX P 0 hi = some hi') (h3 : evO e (L.length / k) hi' = some h) (h4 : evO e 0 lo' = some l) (hlh : l ≤ h) (hc : h * k ≤ L.length) :
    Yields1 P m w O ρ ⟨d, .slice t x lo hi none, ty, pos, after, g⟩ (.d (.sl k ((L.drop (l * k)).take ((h - l) * k)))) := by
  obtain ⟨f, hf, hfk⟩ := szOf_info hs
  simp only [rv, rv1, rd] at hx
  obtain ⟨a, n, c, hx, hk, hn, hl, hr⟩ := hx
  have hdiv : L.length / k = n := by rw [← hl]; exact Nat.mul_div_cancel _ (Nat.pos_of_ne_zero hk)
  rw [hdiv] at h3
  have hhn : h ≤ n := by rw [← hl] at hc; exact Nat.le_of_mul_le_mul_right hc (Nat.pos_of_ne_zero hk)
  have hb := run_sliceBounds (P := P) (w := w) (isS := true) he h1 h2 h3 h4 hlh (Nat.le_trans hhn hn)
  have hsz : (sizeOf el).run P w = .ok k w := by simp [sizeOf, typeInfo, go_sem, hf, hfk]
  refine ⟨.slice (if c = l then a else a.map (·.add (l * k))) (h - l) (c - l), ?_, ?_⟩
  · simp only [execOp, Instr.sliceAt, Sem.run_bind, Sem.run_pure, Result.andThen_ok, run_underlying ht, Instr.slice, hx, hb, hsz]
    simp [Sem.run_bind, Sem.run_pure, Result.andThen_ok, run_underlying ht, hb, hsz]
  · simp only [rv, rv1, rd]
    have hmul : (h - l) * k + l * k = h * k := by rw [← Nat.add_mul]; congr 1; omega
    refine ⟨_, _, _, rfl, hk, by omega, by simp; omega, ?_⟩
    rcases hr with rfl | ⟨b, off, rfl, hr⟩
    · exact .inl (by simp)
    · by_cases hcl : c = l
      · left
        have : h - l = 0 := by omega
        simp [this]
      · right
        refine ⟨b, off + l * k, ?_, rdC_sub hr _ _⟩
        rw [if_neg hcl]
        simp [add_none]

theorem slc_own_ok (he : EnvOk m w O e ρ) {t el : TypeId} {x : Operand} {lo hi : Option Operand} {lo' hi' : Option X} {b k off n l h : Nat} (ht : P.underlying t = some (.slice el)) (hs : szOf P el = some k)
    (hx : rv m w O (.own b k off n) (ρ x)) (h1 : cOX P 0 lo = some lo') (h2 : cOX P 0 hi = some hi') (h3 : evO e n hi' = some h) (h4 : evO e 0 lo' = some l) (hlh : l ≤ h) (hc : h ≤ n) (hm0 : m b = none → l = 0) :
    Yields1 P m w O ρ ⟨d, .slice t x lo hi none, ty, pos, after, g⟩ (.own b k (off + l * k) (h - l)) := by
  obtain ⟨f, hf, hfk⟩ := szOf_info hs
  have hsz : (sizeOf el).run P w = .ok k w := by simp [sizeOf, typeInfo, go_sem, hf, hfk]
  simp only [rv, rv1] at hx
  obtain ⟨hk, hx⟩ := hx
  cases hm : m b with
  | none =>
    simp only [hm] at hx
    obtain ⟨hx, rfl, rfl⟩ := hx
    obtain rfl : l = 0 := hm0 hm
    obtain rfl : h = 0 := by omega
    have hb := run_sliceBounds (P := P) (w := w) (isS := true) (cap := 0) he h1 h2 h3 h4 hlh hc
    refine ⟨.slice none 0 0, ?_, ?_⟩
    · simp only [execOp, Instr.sliceAt, Sem.run_bind, Sem.run_pure, Result.andThen_ok, run_underlying ht, Instr.slice, hx, hb, hsz]
      simp [Sem.run_bind, Sem.run_pure, Result.andThen_ok, run_underlying ht, hb, hsz]
    · simp [rv, rv1, hm, hk]
  | some p =>
    obtain ⟨gg, s⟩ := p
    simp only [hm] at hx
    obtain ⟨o, c, hx, g1, g2, g3⟩ := hx
    have hb := run_sliceBounds (P := P) (w := w) (isS := true) (cap := c) he h1 h2 h3 h4 hlh (by omega)
    refine ⟨.slice (if c = l then some ⟨gg, o, none⟩ else some ⟨gg, o + l * k, none⟩) (h - l) (c - l), ?_, ?_⟩
    · simp only [execOp, Instr.sliceAt, Sem.run_bind, Sem.run_pure, Result.andThen_ok, run_underlying ht, Instr.slice, hx, hb, hsz]
      simp [Sem.run_bind, Sem.run_pure, Result.andThen_ok, run_underlying ht, hb, hsz, add_none]
    · simp only [rv, rv1, hm]
      refine ⟨hk, ?_⟩
      by_cases hcl : c = l
      · refine ⟨o, c - l, by rw [if_pos hcl], by omega, .inl (by omega), ?_⟩
        subst hcl
        simpa using g3
      · refine ⟨o + l * k, c - l, by rw [if_neg hcl], by omega, .inr ?_, ?_⟩
        · rw [g2.resolve_left (by omega)]
        · have : (c - l) * k + l * k = c * k := by rw [← Nat.add_mul]; congr 1; omega
          omega

theorem sls_ok (he : EnvOk m w O e ρ) {t : TypeId} {x : Operand} {lo hi : Option Operand} {lo' hi' : Option X} {l h : Nat} {s : ByteArray} (ht : P.underlying t = some .string)
    (hx : ρ x = .string s) (h1 : cOX P 0 lo = some lo') (h2 : cOX P 0 hi = some hi') (h3 : evO e s.size hi' = some h) (h4 : evO e 0 lo' = some l) (hlh : l ≤ h) (hc : h ≤ s.size) :
    Yields1 P m w O ρ ⟨d, .slice t x lo hi none, ty, pos, after, g⟩ (.d (.str (s.extract l h))) := by
  have hb := run_sliceBounds (P := P) (w := w) (isS := false) he h1 h2 h3 h4 hlh hc
  refine ⟨.string (s.extract l h), ?_, rv_str _⟩
  simp only [execOp, Instr.sliceAt, Sem.run_bind, Sem.run_pure, Result.andThen_ok, run_underlying ht, Instr.slice, hx, hb]
  simp [Sem.run_bind, Sem.run_pure, Result.andThen_ok, run_underlying ht, hb]

theorem ln_own_ok {t el : TypeId} {tl : List TypeId} {x : Operand} {b k off n : Nat} (ht : P.underlying t = some (.slice el)) (hx : rv m w O (.own b k off n) (ρ x)) :
    Yields1 P m w O ρ ⟨d, .call { callee := .builtin .len, args := #[x], argTypes := ⟨t :: tl⟩ }, ty, pos, after, g⟩ (.d (.int .i64 (n : Int))) := by
  simp only [rv, rv1] at hx
  obtain ⟨hk, hx⟩ := hx
  have : ∃ a c, ρ x = .slice a n c := by
    cases hm : m b with
    | none => simp only [hm] at hx; obtain ⟨hx, rfl, _⟩ := hx; exact ⟨_, _, hx⟩
    | some p => simp only [hm] at hx; obtain ⟨o, c, hx, _⟩ := hx; exact ⟨_, _, hx⟩
  obtain ⟨a, c, hx⟩ := this
  refine ⟨.int .i64 n, ?_, rv_int _ _⟩
  simp [execOp, resolve, invoke, builtin, Builtin.len_, hx, go_sem, run_underlying ht, goInt]

theorem ln_str_ok {t : TypeId} {tl : List TypeId} {x : Operand} {s : ByteArray} (ht : P.underlying t = some .string) (hx : ρ x = .string s) :
    Yields1 P m w O ρ ⟨d, .call { callee := .builtin .len, args := #[x], argTypes := ⟨t :: tl⟩ }, ty, pos, after, g⟩ (.d (.int .i64 (s.size : Int))) := by
  refine ⟨.int .i64 s.size, ?_, rv_int _ _⟩
  simp [execOp, resolve, invoke, builtin, Builtin.len_, hx, go_sem, run_underlying ht, goInt]
end
end Go.Proofs.R

/- An operation of the interpreter that turns nothing, compiled from the model's, does what the model's does. -/
namespace Go.Proofs.R
open Go Go.RowKit
set_option linter.unusedSimpArgs false

section
variable {P : Program} {m : Nat → Option (Nat × Nat)} {w : World} {O : Cells} {ρ : Operand → Value}
variable {e : Env} {μ : Mem}

/-- Does the operation only yield a value? -/
def J.quiet : J → Bool
  | .new _ | .lit _ _ _ _ | .box _ | .nil _ | .mk _ _ _ _ _ | .lito _ _ _ _ | .app _ _ _ _ | .call _ _ | .callk _ _ | .st _ _ _ | .callc _ _ | .callh _ _ | .apph _ _ _ _ | .litd _ _ _ _ | .lith _ _ _ | .appf _ _ _ _ | .mkh _ _ _ _ _ | .callu _ _ => false
  | _ => true

theorem mv_ok {x : Operand} {v : V} {o : Oper} (ho : o.op = .move x ∨ o.op = .assign x) (h : rv m w O v (ρ x)) : Yields1 P m w O ρ o v := by
  refine ⟨ρ x, ?_, h⟩
  rcases ho with ho | ho <;> simp [execOp, ho, Sem.run_pure]

theorem At.of_ptr (hμ : MemOk m w O μ) {b : Nat} {B : Blk} (hB : aget μ b = some B) {off : Nat} {y : Value} (h : rv m w O (.ptr b off) y) :
    ∃ g, y = .pointer (some ⟨g, 0 + off, none⟩) ∧ At w O g 0 B.cells := by
  simp only [rv, rv1] at h
  obtain ⟨g, s, hm, rfl⟩ := h
  exact ⟨g, by rw [Nat.zero_add], (hμ.blk b B g s hB hm).1⟩
theorem At.of_cp {l : List D} {i : Nat} {y : Value} (h : rv m w O (.cp l i) y) : ∃ g off, y = .pointer (some ⟨g, off + i, none⟩) ∧ At w O g off l := by
  simp only [rv, rv1] at h
  obtain ⟨b, off, rfl, h⟩ := h
  exact ⟨b, off, rfl, At.of_rdC h⟩

theorem slice_none {lo hi : Nat} {b : Nat} {n k off : Nat} {y : Value} (h : rv m w O (.own b k off n) y) (hm : m b = none) (h1 : lo ≤ hi) (h2 : hi ≤ n) : lo = 0 := by
  simp only [rv, rv1, hm] at h
  omega

theorem min2_ok {k k' : IntKind} {a b : Int} : (Builtin.min2 (.int k a) (.int k' b)).run P w = .ok (.int k (if b < a then b else a)) w := by
  simp [Builtin.min2, Sem.run_pure]
theorem max2_ok {k k' : IntKind} {a b : Int} : (Builtin.max2 (.int k a) (.int k' b)).run P w = .ok (.int k (if a < b then b else a)) w := by
  simp [Builtin.max2, Sem.run_pure]

theorem rvL_get : ∀ {l : List V} {ys : List Value}, rvL m w O l ys → ys.length = l.length ∧ ∀ (i : Nat) (v : V), l[i]? = some v → ∃ y, ys[i]? = some y ∧ rv1 m w O v y
  | [], ys, h => by simp only [rvL] at h; subst h; simp
  | x :: r, ys, h => by
    simp only [rvL] at h
    obtain ⟨y, t, rfl, h1, h2⟩ := h
    obtain ⟨h4, h5⟩ := rvL_get h2
    refine ⟨by simp [h4], fun i z hz => ?_⟩
    cases i with
    | zero => simp at hz; subst hz; exact ⟨y, rfl, h1⟩
    | succ i => simpa using h5 i z (by simpa using hz)

theorem run_list_mapM {α β : Type} (f : α → Sem β) (k : α → β) : ∀ (l : List α), (∀ x ∈ l, (f x).run P w = .ok (k x) w) → (l.mapM f).run P w = .ok (l.map k) w
  | [], _ => by simp [Sem.run_pure]
  | x :: r, h => by
    have h1 := h x (by simp)
    have h2 := run_list_mapM f k r fun y hy => h y (by simp [hy])
    simp only [List.mapM_cons, Sem.run_bind, h1, h2, Result.andThen_ok, Sem.run_pure, List.map_cons]
theorem run_array_mapM {α β : Type} (f : α → Sem β) (k : α → β) (l : Array α) (h : ∀ x ∈ l, (f x).run P w = .ok (k x) w) : (l.mapM f).run P w = .ok (l.map k) w := by
  have := run_list_mapM (P := P) (w := w) f k l.toList fun x hx => h x (by simpa using hx)
  rw [Array.mapM_eq_mapM_toList, ← bind_pure_comp]
  simp only [Sem.run_bind, this, Result.andThen_ok, Sem.run_pure]
  congr 1
  apply Array.ext'
  simp

theorem zeroX_ok {c : Bool} {t : TypeId} {l : List D} (h : (if c = true then zeroR P t else zeroD P t) = some l) : ∃ i z, P.info? t = some i ∧ i.zero = some z ∧ l.length = i.size ∧ ∀ (w : World) (O : Cells), rdL w O l z.cells.toList := by
  split at h
  · exact zeroR_ok h
  · exact zeroD_ok h

/-- What is loaded, as a slice or as data. -/
theorem lift_rv (hμ : MemOk m w O μ) {z : D} {v : V} {y : Value} (h : rd w O z y) (hl : lift μ z = some v) : rv m w O v y := by
  cases z with
  | ref c k off n =>
    simp only [lift] at hl
    split at hl
    · rename_i hc
      cases hl
      simp only [rd, hμ.ref c hc.1 hc.2] at h
      exact h
    · cases hl
  | _ => simp only [lift, Option.some.injEq] at hl; subst hl; exact h

theorem ldr_ok (hμ : MemOk m w O μ) {o : Oper} {z : D} {v : V} (h : Yields1 P m w O ρ o (.d z)) (hl : lift μ z = some v) : Yields1 P m w O ρ o v := by
  obtain ⟨y, h1, h2⟩ := h
  exact ⟨y, h1, lift_rv hμ h2 hl⟩

set_option maxHeartbeats 1000000 in
theorem quiet_ok {h : Hint} {o : Oper} {j : J} {dd : Nat} {v : V} (he : EnvOk m w O e ρ) (hμ : MemOk m w O μ) (hc : cO P h o.dst o.type o.op = some j) (hq : j.quiet = true) (hv : val dd e μ j = some v) :
    Yields1 P m w O ρ o v := by
  obtain ⟨dst, op, ty, pos, after, gd⟩ := o
  cases op <;> simp only [cO] at hc
  case move x =>
    split at hc
    · split at hc
      · split at hc
        · simp only [Option.bind_eq_some_iff] at hc
          obtain ⟨k, _, hc⟩ := hc
          split at hc
          · cases hc
          · cases hc; cases hq
        · cases hc
      · simp only [Option.map_eq_some_iff] at hc
        obtain ⟨x', hx, rfl⟩ := hc
        exact mv_ok (.inl rfl) (ev_ok he hx hv)
    · simp only [Option.map_eq_some_iff] at hc
      obtain ⟨x', hx, rfl⟩ := hc
      exact mv_ok (.inl rfl) (ev_ok he hx hv)
  case assign x =>
    split at hc
    · split at hc
      · split at hc
        · simp only [Option.bind_eq_some_iff] at hc
          obtain ⟨k, _, hc⟩ := hc
          split at hc
          · cases hc
          · cases hc; cases hq
        · cases hc
      · simp only [Option.map_eq_some_iff] at hc
        obtain ⟨x', hx, rfl⟩ := hc
        exact mv_ok (.inr rfl) (ev_ok he hx hv)
    · simp only [Option.map_eq_some_iff] at hc
      obtain ⟨x', hx, rfl⟩ := hc
      exact mv_ok (.inr rfl) (ev_ok he hx hv)
  case pick c a b =>
    simp only [Option.bind_eq_some_iff, Option.map_eq_some_iff] at hc
    obtain ⟨c', hc', a', ha', b', hb', rfl⟩ := hc
    simp only [val, Option.bind_eq_some_iff] at hv
    obtain ⟨u, hu, hv⟩ := hv
    split at hv
    · rename_i t
      have hb := bool_of_rv (ev_ok he hc' hu)
      cases t with
      | true => exact ⟨ρ a, by simp [execOp, hb, asBool, Sem.run_bind, Sem.run_pure, Result.andThen_ok], ev_ok he ha' (by simpa using hv)⟩
      | false => exact ⟨ρ b, by simp [execOp, hb, asBool, Sem.run_bind, Sem.run_pure, Result.andThen_ok], ev_ok he hb' (by simpa using hv)⟩
    · cases hv
  case alloc t => simp only [Option.map_eq_some_iff] at hc; obtain ⟨_, _, rfl⟩ := hc; cases hq
  case box t x => simp only [Option.map_eq_some_iff] at hc; obtain ⟨_, _, rfl⟩ := hc; cases hq
  case build t parts =>
    have key : ∀ (z : List D) (ps : List (Nat × Nat × X)) (place : Nat → Option (Nat × Nat × TypeId)) (pl : Nat → Option (Nat × Nat)), (∃ i zv, P.info? t = some i ∧ i.zero = some zv ∧ z.length = i.size ∧ ∀ (w : World) (O : Cells), rdL w O z zv.cells.toList) → cParts P place parts.toList = some ps →
        (∀ i off n t, place i = some (off, n, t) → pl i = some (off, n)) → val dd e μ (.bld z ps) = some v →
        ∃ i zv arr', P.info? t = some i ∧ i.zero = some zv ∧ Instr.fill pl zv.cells (parts.toList.map fun p => (p.1, ρ p.2)) = some arr' ∧ rv m w O v (.agg arr') := by
      intro z ps place pl hz hps hpl hv
      simp only [val, Option.map_eq_some_iff] at hv
      obtain ⟨l, hl, rfl⟩ := hv
      obtain ⟨i, zv, h1, h2, _, h4⟩ := hz
      obtain ⟨arr', h5, h6⟩ := fill_ok he hμ hpl parts.toList ps z l zv.cells hps hl (h4 w O)
      refine ⟨i, zv, arr', h1, h2, h5, ?_⟩
      simp only [rv, rv1, rd]
      exact ⟨arr'.toList, rfl, h6⟩
    have hmap : (parts.map fun p => (p.1, ρ p.2)).toList = parts.toList.map fun p => (p.1, ρ p.2) := by simp
    split at hc
    · rename_i fs ht
      split at hc
      · rename_i hall
        simp only [Option.bind_eq_some_iff, Option.map_eq_some_iff] at hc
        obtain ⟨z, hz, ps, hps, rfl⟩ := hc
        have hp1 := run_array_mapM (P := P) (w := w) (fun f : Field => (do pure (f.offset, ← sizeOf f.type) : Sem (Nat × Nat))) (fun f => (f.offset, (szOf P f.type).getD 0)) fs (fun f hf => by
          have := List.all_eq_true.1 hall f (by simpa using hf)
          obtain ⟨k, hk⟩ := Option.isSome_iff_exists.1 this
          obtain ⟨i, hi, hik⟩ := szOf_info hk
          simp [sizeOf, typeInfo, go_sem, hi, hik, hk])
        have hp2 : ∀ (i off n : Nat) (t : TypeId), (fs[i]?.bind fun (f : Field) => (szOf P f.type).map fun n => (f.offset, n, f.type)) = some (off, n, t) → (fs.map fun f => (f.offset, (szOf P f.type).getD 0))[i]? = some (off, n) := by
          intro i off n t hh
          simp only [Option.bind_eq_some_iff, Option.map_eq_some_iff] at hh
          obtain ⟨f, hf, n', hn, hh⟩ := hh
          simp only [Prod.mk.injEq] at hh
          obtain ⟨rfl, rfl, rfl⟩ := hh
          simp [hf, hn]
        obtain ⟨i, zv, arr', h1, h2, h3, h4⟩ := key z ps _ _ (zeroX_ok hz) hps hp2 hv
        refine ⟨.agg arr', ?_, h4⟩
        have hzv : (zeroValue t).run P w = .ok zv w := by simp [zeroValue, typeInfo, go_sem, h1, h2]
        simp only [execOp, Instr.build, Sem.run_bind, Sem.run_pure, Result.andThen_ok, hzv, run_underlying ht, hp1, hmap, h3]
      · cases hc
    · rename_i n el ht
      simp only [Option.bind_eq_some_iff, Option.map_eq_some_iff] at hc
      obtain ⟨z, hz, k, hk, ps, hps, rfl⟩ := hc
      obtain ⟨i, zv, arr', h1, h2, h3, h4⟩ := key z ps _ (fun i => some (i * k, k)) (zeroD_ok hz) hps (by intro i off n t hh; simp at hh; obtain ⟨rfl, rfl, _⟩ := hh; rfl) hv
      refine ⟨.agg arr', ?_, h4⟩
      obtain ⟨f, hf, hfk⟩ := szOf_info hk
      have hsz : (sizeOf el).run P w = .ok k w := by simp [sizeOf, typeInfo, go_sem, hf, hfk]
      have hzv : (zeroValue t).run P w = .ok zv w := by simp [zeroValue, typeInfo, go_sem, h1, h2]
      simp only [execOp, Instr.build, Sem.run_bind, Sem.run_pure, Result.andThen_ok, hzv, run_underlying ht, hsz, hmap, h3]
    · cases hc
  case buildSlice t n parts =>
    exfalso
    split at hc
    · simp only [Option.bind_eq_some_iff] at hc
      obtain ⟨k, _, hc⟩ := hc
      split at hc
      · cases hc
      · simp only [Option.bind_eq_some_iff, Option.map_eq_some_iff] at hc
        obtain ⟨z, _, ps, _, hc⟩ := hc
        (repeat' split at hc) <;> (subst hc; cases hq)
    · cases hc
  case load t x =>
    simp only [Option.bind_eq_some_iff, Option.map_eq_some_iff] at hc
    obtain ⟨agg, hg, n, hn, x', hx, hj⟩ := hc
    split at hj
    · subst hj
      simp only [val, Option.bind_eq_some_iff] at hv
      obtain ⟨u, hu, hv⟩ := hv
      have hr := ev_ok he hx hu
      split at hv
      · simp only [Option.map_eq_some_iff] at hv
        obtain ⟨z, hz, rfl⟩ := hv
        obtain ⟨g, off, h1, h2⟩ := At.of_cp hr
        exact ld_ok h1 h2 hz hg hn
      · cases hv
    split at hj
    · rename_i hcond
      subst hj
      simp only [Bool.and_eq_true, Bool.not_eq_true', beq_iff_eq] at hcond
      obtain ⟨⟨_, rfl⟩, rfl⟩ := hcond
      simp only [val, Option.bind_eq_some_iff] at hv
      obtain ⟨u, hu, hv⟩ := hv
      have hr := ev_ok he hx hu
      split at hv
      · simp only [Option.bind_eq_some_iff] at hv
        obtain ⟨B, hB, z, hz, hl⟩ := hv
        obtain ⟨g, h1, h2⟩ := At.of_ptr hμ hB hr
        exact ldr_ok hμ (ld_ok h1 h2 (agg := false) (n := 1) (by simpa [view] using hz) hg hn) hl
      · simp only [Option.bind_eq_some_iff] at hv
        obtain ⟨z, hz, hl⟩ := hv
        obtain ⟨g, off, h1, h2⟩ := At.of_cp hr
        exact ldr_ok hμ (ld_ok h1 h2 (agg := false) (n := 1) (by simpa [view] using hz) hg hn) hl
      · cases hv
    subst hj
    simp only [val, Option.bind_eq_some_iff] at hv
    obtain ⟨u, hu, hv⟩ := hv
    have hr := ev_ok he hx hu
    split at hv
    · simp only [Option.bind_eq_some_iff, Option.map_eq_some_iff] at hv
      obtain ⟨B, hB, z, hz, rfl⟩ := hv
      obtain ⟨g, h1, h2⟩ := At.of_ptr hμ hB hr
      exact ld_ok h1 h2 hz hg hn
    · simp only [Option.map_eq_some_iff] at hv
      obtain ⟨z, hz, rfl⟩ := hv
      obtain ⟨g, off, h1, h2⟩ := At.of_cp hr
      exact ld_ok h1 h2 hz hg hn
    · cases hv
  case store t x y =>
    simp only [Option.bind_eq_some_iff, Option.map_eq_some_iff] at hc
    obtain ⟨_, _, _, _, _, _, hj⟩ := hc
    subst hj; cases hq
  case nilCheck x =>
    simp only [Option.map_eq_some_iff] at hc
    obtain ⟨x', hx, rfl⟩ := hc
    simp only [val, Option.bind_eq_some_iff] at hv
    obtain ⟨u, hu, hv⟩ := hv
    have hr := ev_ok he hx hu
    split at hv
    · cases hv
      have h := hr
      simp only [rv, rv1] at h
      obtain ⟨g, s, _, h⟩ := h
      exact ⟨ρ x, by simp only [execOp, h, Sem.run_pure], hr⟩
    · cases hv
      have h := hr
      simp only [rv, rv1] at h
      obtain ⟨g, off, h, _⟩ := h
      exact ⟨ρ x, by simp only [execOp, h, Sem.run_pure], hr⟩
    · cases hv
  case binOp op t x y yt =>
    have gen : ∀ j, ((cX P t x).bind fun x => (cX P yt y).map fun y => J.bin op x y) = some j → val dd e μ j = some v → Yields1 P m w O ρ ⟨dst, .binOp op t x y yt, ty, pos, after, gd⟩ v := by
      intro j hc hv
      simp only [Option.bind_eq_some_iff, Option.map_eq_some_iff] at hc
      obtain ⟨x', hx, y', hy, rfl⟩ := hc
      simp only [val, Option.bind_eq_some_iff] at hv
      obtain ⟨u, hu, u', hu', hv⟩ := hv
      exact bin_ok (ev_ok he hx hu) (ev_ok he hy hu') hv
    have genB : ∀ (neg : Bool) j, P.underlying t = some .bool → (op = if neg then .neq else .eql) → ((cX P t x).bind fun x => (cX P yt y).map fun y => J.beq neg x y) = some j → val dd e μ j = some v → Yields1 P m w O ρ ⟨dst, .binOp op t x y yt, ty, pos, after, gd⟩ v := by
      intro neg j ht ho hc hv
      simp only [Option.bind_eq_some_iff, Option.map_eq_some_iff] at hc
      obtain ⟨x', hx, y', hy, rfl⟩ := hc
      simp only [val, Option.bind_eq_some_iff] at hv
      obtain ⟨u, hu, u', hu', hv⟩ := hv
      have hx1 := ev_ok he hx hu
      have hy1 := ev_ok he hy hu'
      split at hv
      · cases hv
        exact beq_ok ht ho hx1 hy1
      · cases hv
    split at hc
    · rename_i ht
      split at hc
      · exact genB false j ht rfl hc hv
      · exact genB true j ht rfl hc hv
      · cases hc
    · rename_i el ht
      have genP : ∀ (neg : Bool) j, (op = if neg then .neq else .eql) → y = .const (.pointer none) → (cX P t x).map (J.pnil neg) = some j → val dd e μ j = some v → Yields1 P m w O ρ ⟨dst, .binOp op t x y yt, ty, pos, after, gd⟩ v := by
        intro neg j ho hy hc hv
        simp only [Option.map_eq_some_iff] at hc
        obtain ⟨x', hx, rfl⟩ := hc
        simp only [val, Option.bind_eq_some_iff] at hv
        obtain ⟨u, hu, hv⟩ := hv
        have hx1 := ev_ok he hx hu
        have hy1 : ρ y = .pointer none := by subst hy; exact he.2 _
        split at hv
        · cases hv
          obtain ⟨g, s, _, h⟩ := hx1
          have := pnil_ok (P := P) (m := m) (w := w) (O := O) (d := dst) (ty := ty) (pos := pos) (after := after) (g := gd) (yt := yt) ht ho h hy1
          cases neg <;> exact this
        · cases hv
          have h := hx1
          simp only [rv, rv1, rd] at h
          have := pnil_ok (P := P) (m := m) (w := w) (O := O) (d := dst) (ty := ty) (pos := pos) (after := after) (g := gd) (yt := yt) ht ho h.1 hy1
          cases neg <;> exact this
        · cases hv
      split at hc
      · rename_i hy
        split at hc
        · exact genP false j rfl (isNilC_eq hy) hc hv
        · exact genP true j rfl (isNilC_eq hy) hc hv
        · cases hc
      · cases hc
    · exact gen j hc hv
  case unOp op t x =>
    simp only [Option.map_eq_some_iff] at hc
    obtain ⟨x', hx, rfl⟩ := hc
    simp only [val, Option.bind_eq_some_iff] at hv
    obtain ⟨u, hu, hv⟩ := hv
    exact un_ok (ev_ok he hx hu) hv
  case convert src dt x =>
    split at hc
    · rename_i k1 k2 h1 h2
      simp only [Option.map_eq_some_iff] at hc
      obtain ⟨x', hx, rfl⟩ := hc
      simp only [val, Option.bind_eq_some_iff] at hv
      obtain ⟨u, hu, hv⟩ := hv
      have hx1 := ev_ok he hx hu
      split at hv
      · cases hv; exact conv_ok h1 h2 hx1
      · cases hv
    · cases hc
  case makeSlice t l c =>
    exfalso
    split at hc
    · simp only [Option.bind_eq_some_iff] at hc
      obtain ⟨i, _, hc⟩ := hc
      split at hc
      · cases hc
      · simp only [Option.bind_eq_some_iff, Option.map_eq_some_iff] at hc
        obtain ⟨_, _, _, _, _, _, hc⟩ := hc
        split at hc <;> (subst hc; cases hq)
    · cases hc
  case slice t x lo hi mx =>
    cases mx with
    | some _ => cases hc
    | none =>
      simp only at hc
      split at hc
      · rename_i el ht
        simp only [Option.bind_eq_some_iff] at hc
        obtain ⟨k, hk, hc⟩ := hc
        split at hc
        · cases hc
        · simp only [Option.bind_eq_some_iff, Option.map_eq_some_iff] at hc
          obtain ⟨x', hx, lo', hlo, hi', hhi, rfl⟩ := hc
          simp only [val, Option.bind_eq_some_iff] at hv
          obtain ⟨u, hu, hv⟩ := hv
          have hx1 := ev_ok he hx hu
          split at hv
          · split at hv
            · rename_i hkk
              subst hkk
              simp only [Option.bind_eq_some_iff] at hv
              obtain ⟨h1, e1, l1, e2, hv⟩ := hv
              split at hv
              · rename_i hle
                cases hv
                exact slc_sl_ok he ht hk hx1 hlo hhi e1 e2 hle.1 hle.2
              · cases hv
            · cases hv
          · split at hv
            · rename_i hkk
              subst hkk
              simp only [Option.bind_eq_some_iff] at hv
              obtain ⟨h1, e1, l1, e2, hv⟩ := hv
              split at hv
              · rename_i hle
                cases hv
                exact slc_own_ok he ht hk hx1 hlo hhi e1 e2 hle.1 hle.2 fun hm => slice_none hx1 hm hle.1 hle.2
              · cases hv
            · cases hv
          · cases hv
      · rename_i ht
        simp only [Option.bind_eq_some_iff, Option.map_eq_some_iff] at hc
        obtain ⟨x', hx, lo', hlo, hi', hhi, rfl⟩ := hc
        simp only [val, Option.bind_eq_some_iff] at hv
        obtain ⟨u, hu, hv⟩ := hv
        have hx1 := ev_ok he hx hu
        split at hv
        · simp only [Option.bind_eq_some_iff] at hv
          obtain ⟨h1, e1, l1, e2, hv⟩ := hv
          split at hv
          · rename_i hle
            cases hv
            exact sls_ok he ht (str_of_rv hx1) hlo hhi e1 e2 hle.1 hle.2
          · cases hv
        · cases hv
      · cases hc
  case fieldAddr t x f =>
    split at hc
    · rename_i fs ht
      simp only [Option.bind_eq_some_iff] at hc
      obtain ⟨fd, hf, n, hn, hc⟩ := hc
      split at hc
      · cases hc
      · rename_i hn0
        simp only [Option.map_eq_some_iff] at hc
        obtain ⟨x', hx, rfl⟩ := hc
        simp only [val, Option.bind_eq_some_iff] at hv
        obtain ⟨u, hu, hv⟩ := hv
        have hx1 := ev_ok he hx hu
        split at hv
        · cases hv
          simp only [rv, rv1] at hx1
          obtain ⟨g, s, hm, hx1⟩ := hx1
          exact ⟨_, fA_ok hx1 ht hf hn hn0, by simp only [rv, rv1]; exact ⟨g, s, hm, rfl⟩⟩
        · cases hv
          simp only [rv, rv1] at hx1
          obtain ⟨g, s, hx1, hr⟩ := hx1
          exact ⟨_, fA_ok hx1 ht hf hn hn0, by simp only [rv, rv1]; exact ⟨g, s, by rw [Nat.add_assoc], hr⟩⟩
        · cases hv
    · cases hc
  case field t x f =>
    split at hc
    · rename_i fs ht
      simp only [Option.bind_eq_some_iff, Option.map_eq_some_iff] at hc
      obtain ⟨fd, hf, n, hn, agg, hg, x', hx, rfl⟩ := hc
      simp only [val, Option.bind_eq_some_iff] at hv
      obtain ⟨u, hu, hv⟩ := hv
      have hx1 := ev_ok he hx hu
      split at hv
      · simp only [Option.map_eq_some_iff] at hv
        obtain ⟨z, hz, rfl⟩ := hv
        exact fV_ok ht hf hn hg hx1 hz
      · cases hv
    · cases hc
  case indexAddr t x i =>
    split at hc
    · rename_i el ht
      simp only [Option.bind_eq_some_iff] at hc
      obtain ⟨k, hk, hc⟩ := hc
      split at hc
      · cases hc
      · simp only [Option.bind_eq_some_iff, Option.map_eq_some_iff] at hc
        obtain ⟨x', hx, i', hi, rfl⟩ := hc
        simp only [val, Option.bind_eq_some_iff] at hv
        obtain ⟨u, hu, v', hv', n, hn, hv⟩ := hv
        have hx1 := ev_ok he hx hu
        obtain ⟨kk, hi1⟩ := run_natOf (ev_ok he hi hv') hn
        split at hv
        · split at hv
          · rename_i hle
            cases hv
            obtain ⟨rfl, hle⟩ := hle
            exact iA_sl_ok ht hk hx1 hi1 hle
          · cases hv
        · split at hv
          · rename_i hle
            cases hv
            obtain ⟨rfl, hle⟩ := hle
            exact iA_own_ok ht hk hx1 hi1 hle
          · cases hv
        · cases hv
    · rename_i len el ht
      simp only [Option.bind_eq_some_iff, Option.map_eq_some_iff] at hc
      obtain ⟨k, hk, x', hx, i', hi, rfl⟩ := hc
      simp only [val, Option.bind_eq_some_iff] at hv
      obtain ⟨u, hu, v', hv', n, hn, hv⟩ := hv
      have hx1 := ev_ok he hx hu
      obtain ⟨kk, hi1⟩ := run_natOf (ev_ok he hi hv') hn
      split at hv
      · rename_i hle
        split at hv
        · cases hv
          simp only [rv, rv1] at hx1
          obtain ⟨g, s, hm, hx1⟩ := hx1
          exact ⟨_, aA_ok ht hk hx1 hi1 hle, by simp only [rv, rv1]; exact ⟨g, s, hm, rfl⟩⟩
        · cases hv
          simp only [rv, rv1] at hx1
          obtain ⟨g, s, hx1, hr⟩ := hx1
          exact ⟨_, aA_ok ht hk hx1 hi1 hle, by simp only [rv, rv1]; exact ⟨g, s, by rw [Nat.add_assoc], hr⟩⟩
        · cases hv
      · cases hv
    · cases hc
  case index t x i =>
    split at hc
    · rename_i len el ht
      simp only [Option.bind_eq_some_iff, Option.map_eq_some_iff] at hc
      obtain ⟨k, hk, agg, hg, x', hx, i', hi, rfl⟩ := hc
      simp only [val, Option.bind_eq_some_iff] at hv
      obtain ⟨u, hu, v', hv', n, hn, hv⟩ := hv
      have hx1 := ev_ok he hx hu
      obtain ⟨kk, hi1⟩ := run_natOf (ev_ok he hi hv') hn
      split at hv
      · rename_i hle
        split at hv
        · simp only [Option.map_eq_some_iff] at hv
          obtain ⟨z, hz, rfl⟩ := hv
          exact iV_ok ht hk hg hx1 hi1 hle hz
        · cases hv
      · cases hv
    · rename_i ht
      simp only [Option.bind_eq_some_iff, Option.map_eq_some_iff] at hc
      obtain ⟨x', hx, i', hi, rfl⟩ := hc
      simp only [val, Option.bind_eq_some_iff] at hv
      obtain ⟨u, hu, v', hv', n, hn, hv⟩ := hv
      have hx1 := ev_ok he hx hu
      obtain ⟨kk, hi1⟩ := run_natOf (ev_ok he hi hv') hn
      split at hv
      · simp only [Option.map_eq_some_iff] at hv
        obtain ⟨b, hb, rfl⟩ := hv
        exact sI_ok ht (str_of_rv hx1) hi1 hb
      · cases hv
    · cases hc
  case extract x i =>
    simp only [Option.map_eq_some_iff] at hc
    obtain ⟨x', hx, rfl⟩ := hc
    simp only [val, Option.bind_eq_some_iff] at hv
    obtain ⟨u, hu, hv⟩ := hv
    have hx1 := ev_ok he hx hu
    split at hv
    · simp only [rv] at hx1
      obtain ⟨ys, hx1, hr⟩ := hx1
      obtain ⟨y, hy, hr⟩ := (rvL_get hr).2 i v hv
      refine ⟨y, ?_, rv_of_rv1 hr⟩
      simp only [execOp, Instr.extract, hx1, Sem.run_bind, Sem.run_pure, Result.andThen_ok]
      simp [hy, Sem.run_pure]
    · cases hv
  case call c =>
    obtain ⟨callee, args, argTypes⟩ := c
    cases callee with
    | value f =>
      cases f with
      | func f =>
        exfalso
        simp only at hc
        split at hc
        · split at hc
          · cases hc
          · simp only [Option.map_eq_some_iff] at hc
            obtain ⟨l, _, hc⟩ := hc
            (repeat' split at hc) <;> (subst hc; cases hq)
        · cases hc
      | _ => cases hc
    | invoke _ _ => cases hc
    | builtin b =>
      obtain ⟨args⟩ := args
      obtain ⟨argTypes⟩ := argTypes
      simp only at hc
      split at hc
      · rename_i x t tl
        split at hc
        · rename_i el ht
          simp only [Option.bind_eq_some_iff] at hc
          obtain ⟨k, hk, hc⟩ := hc
          split at hc
          · cases hc
          · simp only [Option.map_eq_some_iff] at hc
            obtain ⟨x', hx, rfl⟩ := hc
            simp only [val, Option.bind_eq_some_iff] at hv
            obtain ⟨u, hu, hv⟩ := hv
            have hx1 := ev_ok he hx hu
            split at hv
            · cases hv; exact ln_sl_ok ht hx1
            · cases hv; exact ln_own_ok ht hx1
            · cases hv
              have h1 : ρ x = .slice none 0 0 := hx1.1
              refine ⟨.int .i64 0, ?_, rv_int _ _⟩
              simp [execOp, resolve, invoke, builtin, Builtin.len_, h1, go_sem, run_underlying ht, goInt]
            · cases hv
        · rename_i ht
          simp only [Option.map_eq_some_iff] at hc
          obtain ⟨x', hx, rfl⟩ := hc
          simp only [val, Option.bind_eq_some_iff] at hv
          obtain ⟨u, hu, hv⟩ := hv
          have hx1 := ev_ok he hx hu
          split at hv
          · cases hv; exact ln_str_ok ht (str_of_rv hx1)
          · cases hv
        · rename_i n el ht
          simp only [Option.some.injEq] at hc
          subst hc
          simp only [val, X.ev, Option.some.injEq] at hv
          subst hv
          refine ⟨.int .i64 n, ?_, rv_int _ _⟩
          simp [execOp, resolve, invoke, builtin, Builtin.len_, go_sem, run_underlying ht, goInt]
        · cases hc
      · exfalso
        split at hc
        · split at hc
          · simp only [Option.bind_eq_some_iff] at hc
            obtain ⟨i, _, hc⟩ := hc
            split at hc
            · cases hc
            · simp only [Option.bind_eq_some_iff, Option.map_eq_some_iff] at hc
              obtain ⟨_, _, _, _, _, _, hc⟩ := hc
              (repeat' split at hc) <;> (subst hc; cases hq)
          · cases hc
        · cases hc
      · rename_i x y t t2
        split at hc
        · simp only [Option.bind_eq_some_iff, Option.map_eq_some_iff] at hc
          obtain ⟨x', hx, y', hy, rfl⟩ := hc
          simp only [val, Option.bind_eq_some_iff] at hv
          obtain ⟨u, hu, u', hu', hv⟩ := hv
          have hx1 := ev_ok he hx hu
          have hy1 := ev_ok he hy hu'
          split at hv
          · cases hv
            rename_i k a k' b
            refine ⟨_, ?_, rv_int _ _⟩
            have e1 := int_of_rv hx1
            have e2 := int_of_rv hy1
            simp only [execOp, resolve, invoke, builtin, Builtin.min_, Sem.run_bind, Sem.run_pure, Result.andThen_ok, List.map_toArray, List.map_cons, List.map_nil, e1, e2, List.foldlM_cons, List.foldlM_nil, min2_ok]
          · cases hv
        · cases hc
      · rename_i x y t t2
        split at hc
        · simp only [Option.bind_eq_some_iff, Option.map_eq_some_iff] at hc
          obtain ⟨x', hx, y', hy, rfl⟩ := hc
          simp only [val, Option.bind_eq_some_iff] at hv
          obtain ⟨u, hu, u', hu', hv⟩ := hv
          have hx1 := ev_ok he hx hu
          have hy1 := ev_ok he hy hu'
          split at hv
          · cases hv
            rename_i k a k' b
            refine ⟨_, ?_, rv_int _ _⟩
            have e1 := int_of_rv hx1
            have e2 := int_of_rv hy1
            simp only [execOp, resolve, invoke, builtin, Builtin.max_, Sem.run_bind, Sem.run_pure, Result.andThen_ok, List.map_toArray, List.map_cons, List.map_nil, e1, e2, List.foldlM_cons, List.foldlM_nil, max2_ok]
          · cases hv
        · cases hc
      · cases hc
  all_goals cases hc
end
end Go.Proofs.R

/- The relation of a call under way, step by step. -/
namespace Go.Proofs.R
open Go Go.RowKit
set_option linter.unusedSimpArgs false

theorem rv1_keep {m m' : Nat → Option (Nat × Nat)} {w w' : World} {O O' : Cells} (h : Keep w O w' O') {v : V} {y : Value} (hm : ∀ b, v.says1 b = true → m' b = m b) (hr : rv1 m w O v y) : rv1 m' w' O' v y := by
  cases v with
  | d x => exact rd_keep h x y hr
  | own b k off n => simp only [rv1] at hr ⊢; rw [hm b (by simp [V.says1])]; exact hr
  | ptr b off => simp only [rv1] at hr ⊢; rw [hm b (by simp [V.says1])]; exact hr
  | cp l i =>
    simp only [rv1] at hr ⊢
    obtain ⟨b, off, h1, h2⟩ := hr
    exact ⟨b, off, h1, rdC_keep h b off l h2⟩
  | tp l => exact hr
theorem rvL_keep {m m' : Nat → Option (Nat × Nat)} {w w' : World} {O O' : Cells} (h : Keep w O w' O') : ∀ {l : List V} {ys : List Value}, (∀ b v, v ∈ l → v.says1 b = true → m' b = m b) → rvL m w O l ys → rvL m' w' O' l ys
  | [], ys, _, hr => by simpa only [rvL] using hr
  | v :: r, ys, hm, hr => by
    simp only [rvL] at hr ⊢
    obtain ⟨y, t, h1, h2, h3⟩ := hr
    exact ⟨y, t, h1, rv1_keep h (fun b hb => hm b v (by simp) hb) h2, rvL_keep h (fun b u hu hb => hm b u (by simp [hu]) hb) h3⟩
theorem rv_keep {m m' : Nat → Option (Nat × Nat)} {w w' : World} {O O' : Cells} (h : Keep w O w' O') {v : V} {y : Value} (hm : ∀ b, v.says b = true → m' b = m b) (hr : rv m w O v y) : rv m' w' O' v y := by
  cases v with
  | tp l =>
    simp only [rv] at hr ⊢
    obtain ⟨ys, h1, h2⟩ := hr
    exact ⟨ys, h1, rvL_keep h (fun b v hv hb => hm b (by simp only [V.says, List.any_eq_true]; exact ⟨v, hv, hb⟩)) h2⟩
  | d x => exact (rv1_keep (v := .d x) h (fun b hb => hm b (by simpa [V.says] using hb)) hr :)
  | own b k off n => exact (rv1_keep (v := .own b k off n) h (fun b hb => hm b (by simpa [V.says] using hb)) hr :)
  | ptr b off => exact (rv1_keep (v := .ptr b off) h (fun b hb => hm b (by simpa [V.says] using hb)) hr :)
  | cp l i => exact (rv1_keep (v := .cp l i) h (fun b hb => hm b (by simpa [V.says] using hb)) hr :)

section
variable {P : Program} {w0 w : World} {X : Nat → Prop} {O0 : Outs} {m0 m : Nat → Option (Nat × Nat)} {np nt : Nat} {e : Env} {μ : Mem} {a : Act}

theorem Rel.envOk (R : Rel w0 X O0 m0 np nt m e μ a w) : EnvOk m w (Ow O0 m μ) e a.eval := by
  refine ⟨fun t v h => ?_, fun v => rfl⟩
  obtain ⟨y, h1, h2⟩ := R.env t v h
  simpa [Act.eval, h1] using h2

theorem refOf_live {m : Nat → Option (Nat × Nat)} {μ : Mem} {b : Nat} (h : 1099511627776 ≤ b) (hs : (aget μ b).isSome = true) (hlt : b < cntOf μ) : refOf m μ b = .live (m b) := by
  unfold refOf
  rw [if_neg (by omega), if_pos hs]
theorem Blks.memOk {lo : Nat} {X : Nat → Prop} (B : Blks lo X (Ow O0 m μ) m μ w) (out : ∀ g i, O0 g i → g < lo ∧ ¬ X g) (hlt : ∀ b, 1099511627776 ≤ b → (aget μ b).isSome = true → b < cntOf μ) : MemOk m w (Ow O0 m μ) μ := by
  refine ⟨?_, fun b hb hs => refOf_live hb hs (hlt b hb hs)⟩
  intro b Bk g s hB hm
  obtain ⟨h1, h2, h3, arr, T, h4, h5, h6⟩ := B.blk b Bk hB g s hm
  refine ⟨At.of_rdB h6 h4, fun i hi hO => ?_, h3⟩
  rcases hO with hO | ⟨b', B', s', hB', hm', hp⟩
  · obtain ⟨h7, h8⟩ := out g i hO
    rcases h1 with h1 | h1
    · omega
    · exact h8 h1
  · have := B.inj b b' Bk B' g s s' hB hB' hm hm'
    subst this
    rw [hB] at hB'
    cases hB'
    omega
theorem Rel.memOk (R : Rel w0 X O0 m0 np nt m e μ a w) : MemOk m w (Ow O0 m μ) μ := R.blks.memOk R.out R.heap.hlt

theorem put_tmps (a : Act) (d : Nat) (y : Value) (h : d < a.tmps.size) (t : Nat) : (a.put (some d) y).tmps[t]? = if t = d then some y else a.tmps[t]? := by
  simp only [Act.put, Array.getElem?_setIfInBounds]
  by_cases htd : d = t
  · subst htd; simp [h]
  · rw [if_neg htd, if_neg (Ne.symm htd)]

theorem Rel.put (R : Rel w0 X O0 m0 np nt m e μ a w) {d : Nat} {v : V} {y : Value} (hd : d < nt) (hr : rv m w (Ow O0 m μ) v y) (hs : ∀ b, v.says b = true → Said μ b) :
    Rel w0 X O0 m0 np nt m (aput d v e) μ (a.put (some d) y) w := by
  have hd' : d < a.tmps.size := by rw [R.size]; exact hd
  refine ⟨by simp [Act.put, R.size], R.defers, R.srt.aput, fun t u h => ?_, fun t u h => ?_, R.blks, R.frame, R.out, R.low, R.stay, R.heap⟩
  · rw [put_tmps a d y hd']
    rw [aget_aput] at h
    split at h
    · cases h; rename_i ht; subst ht; rw [if_pos rfl]; exact ⟨y, rfl, hr⟩
    · rename_i ht; rw [if_neg ht]; exact R.env t u h
  · rw [aget_aput] at h
    split at h
    · cases h; exact hs
    · exact R.says t u h

/-- A temporary of which nothing is known any more. -/
theorem Rel.forget (R : Rel w0 X O0 m0 np nt m e μ a w) {d : Nat} (hd : d < nt) (y : Value) : Rel w0 X O0 m0 np nt m (adel d e) μ (a.put (some d) y) w := by
  have hd' : d < a.tmps.size := by rw [R.size]; exact hd
  refine ⟨by simp [Act.put, R.size], R.defers, R.srt.adel, fun t u h => ?_, fun t u h => ?_, R.blks, R.frame, R.out, R.low, R.stay, R.heap⟩
  · rw [put_tmps a d y hd']
    rw [aget_adel] at h
    split at h
    · cases h
    · rename_i ht; rw [if_neg ht]; exact R.env t u h
  · rw [aget_adel] at h
    split at h
    · cases h
    · exact R.says t u h

theorem Rel.del (R : Rel w0 X O0 m0 np nt m e μ a w) (d : Nat) : Rel w0 X O0 m0 np nt m (adel d e) μ a w := by
  refine ⟨R.size, R.defers, R.srt.adel, fun t u h => ?_, fun t u h => ?_, R.blks, R.frame, R.out, R.low, R.stay, R.heap⟩
  · rw [aget_adel] at h
    split at h
    · cases h
    · exact R.env t u h
  · rw [aget_adel] at h
    split at h
    · cases h
    · exact R.says t u h

theorem Rel.killT (R : Rel w0 X O0 m0 np nt m e μ a w) (ts : List Nat) : Rel w0 X O0 m0 np nt m (killT ts e) μ a w := by
  induction ts generalizing e with
  | nil => exact R
  | cons t r ih => exact ih (R.del t)

theorem says1_eq {b c k off n : Nat} (h : (V.own c k off n).says b = true) : c = b := by simpa [V.says, V.says1] using h

/-- What a quiet operation yields speaks of no block that the environment doesn't speak of. -/
theorem says_lift {Q : Nat → Prop} {z : D} {v : V} (hv : lift μ z = some v) (hh : ∀ b, 1099511627776 ≤ b → (aget μ b).isSome = true → Q b) : ∀ b, v.says b = true → Q b := by
  cases z with
  | ref c k off n =>
    simp only [lift] at hv
    split at hv
    · rename_i hc
      cases hv
      intro b hb
      have : c = b := says1_eq hb
      subst this
      exact hh c hc.1 hc.2
    · cases hv
  | _ => simp only [lift, Option.some.injEq] at hv; subst hv; intro b hb; simp [V.says, V.says1] at hb
theorem says_val {Q : Nat → Prop} {dd : Nat} {j : J} {v : V} (hq : j.quiet = true) (hv : val dd e μ j = some v) (he : ∀ t v, aget e t = some v → ∀ b, v.says b = true → Q b) (hh : ∀ b, 1099511627776 ≤ b → (aget μ b).isSome = true → Q b) :
    ∀ b, v.says b = true → Q b := by
  have hx : ∀ {x : X} {v : V}, x.ev e = some v → ∀ b, v.says b = true → Q b := by
    intro x v h b hb
    cases x with
    | t n => exact he n v h b hb
    | c z => simp only [X.ev, Option.some.injEq] at h; subst h; simp [V.says, V.says1] at hb
  have hd : ∀ {x : D} b, (V.d x).says b = true → Q b := by
    intro x b hb; simp [V.says, V.says1] at hb
  cases j <;> simp only [val] at hv <;> try (cases hq; done)
  case ldd n g x =>
    simp only [Option.bind_eq_some_iff] at hv
    obtain ⟨u, _, hv⟩ := hv
    split at hv
    · simp only [Option.map_eq_some_iff] at hv
      obtain ⟨_, _, rfl⟩ := hv
      exact hd
    · cases hv
  case mv x => exact hx hv
  case pick c a b =>
    simp only [Option.bind_eq_some_iff] at hv
    obtain ⟨u, _, hv⟩ := hv
    split at hv
    · split at hv <;> exact hx hv
    · cases hv
  case bin op x y =>
    simp only [Option.bind_eq_some_iff] at hv
    obtain ⟨u, _, u', _, hv⟩ := hv
    unfold binD at hv
    intro b hb
    repeat' split at hv
    all_goals first
      | (cases hv; done)
      | (cases hv; exact hd b hb)
      | (simp only [Option.map_eq_some_iff] at hv; obtain ⟨_, _, rfl⟩ := hv; exact hd b hb)
  case beq neg x y =>
    simp only [Option.bind_eq_some_iff] at hv
    obtain ⟨u, _, u', _, hv⟩ := hv
    split at hv
    · cases hv; exact hd
    · cases hv
  case pnil neg x =>
    simp only [Option.bind_eq_some_iff] at hv
    obtain ⟨u, _, hv⟩ := hv
    split at hv
    · cases hv; exact hd
    · cases hv; exact hd
    · cases hv
  case un op x =>
    simp only [Option.bind_eq_some_iff] at hv
    obtain ⟨u, _, hv⟩ := hv
    unfold unD at hv
    intro b hb
    repeat' split at hv
    all_goals first
      | (cases hv; done)
      | (cases hv; exact hd b hb)
  case conv k x =>
    simp only [Option.bind_eq_some_iff] at hv
    obtain ⟨u, _, hv⟩ := hv
    split at hv
    · cases hv; exact hd
    · cases hv
  case fA off x =>
    simp only [Option.bind_eq_some_iff] at hv
    obtain ⟨u, hu, hv⟩ := hv
    have := hx hu
    split at hv
    · cases hv; intro b hb; exact this b (by simpa [V.says, V.says1] using hb)
    · cases hv; intro b hb; simp [V.says, V.says1] at hb
    · cases hv
  case fV off n agg x =>
    simp only [Option.bind_eq_some_iff] at hv
    obtain ⟨u, hu, hv⟩ := hv
    split at hv
    · simp only [Option.map_eq_some_iff] at hv; obtain ⟨_, _, rfl⟩ := hv; exact hd
    · cases hv
  case iA k x i =>
    simp only [Option.bind_eq_some_iff] at hv
    obtain ⟨u, hu, u', _, n, _, hv⟩ := hv
    have := hx hu
    split at hv
    · split at hv
      · cases hv; intro b hb; simp [V.says, V.says1] at hb
      · cases hv
    · split at hv
      · cases hv; intro b hb; exact this b (by simpa [V.says, V.says1] using hb)
      · cases hv
    · cases hv
  case aA len k x i =>
    simp only [Option.bind_eq_some_iff] at hv
    obtain ⟨u, hu, u', _, n, _, hv⟩ := hv
    have := hx hu
    split at hv
    · split at hv
      · cases hv; intro b hb; exact this b (by simpa [V.says, V.says1] using hb)
      · cases hv; intro b hb; simp [V.says, V.says1] at hb
      · cases hv
    · cases hv
  case iV len k agg x i =>
    simp only [Option.bind_eq_some_iff] at hv
    obtain ⟨u, hu, u', _, n, _, hv⟩ := hv
    split at hv
    · split at hv
      · simp only [Option.map_eq_some_iff] at hv; obtain ⟨_, _, rfl⟩ := hv; exact hd
      · cases hv
    · cases hv
  case sI x i =>
    simp only [Option.bind_eq_some_iff] at hv
    obtain ⟨u, hu, u', _, n, _, hv⟩ := hv
    split at hv
    · simp only [Option.map_eq_some_iff] at hv; obtain ⟨_, _, rfl⟩ := hv; exact hd
    · cases hv
  case ld n agg x =>
    simp only [Option.bind_eq_some_iff] at hv
    obtain ⟨u, hu, hv⟩ := hv
    split at hv
    · simp only [Option.bind_eq_some_iff, Option.map_eq_some_iff] at hv; obtain ⟨_, _, _, _, rfl⟩ := hv; exact hd
    · simp only [Option.map_eq_some_iff] at hv; obtain ⟨_, _, rfl⟩ := hv; exact hd
    · cases hv
  case bld cs ps => simp only [Option.map_eq_some_iff] at hv; obtain ⟨_, _, rfl⟩ := hv; exact hd
  case slc k x lo hi =>
    simp only [Option.bind_eq_some_iff] at hv
    obtain ⟨u, hu, hv⟩ := hv
    have := hx hu
    split at hv
    · split at hv
      · simp only [Option.bind_eq_some_iff] at hv
        obtain ⟨_, _, _, _, hv⟩ := hv
        split at hv
        · cases hv; exact hd
        · cases hv
      · cases hv
    · split at hv
      · simp only [Option.bind_eq_some_iff] at hv
        obtain ⟨_, _, _, _, hv⟩ := hv
        split at hv
        · cases hv; intro b hb; exact this b (by simpa [V.says, V.says1] using hb)
        · cases hv
      · cases hv
    · cases hv
  case sls x lo hi =>
    simp only [Option.bind_eq_some_iff] at hv
    obtain ⟨u, hu, hv⟩ := hv
    split at hv
    · simp only [Option.bind_eq_some_iff] at hv
      obtain ⟨_, _, _, _, hv⟩ := hv
      split at hv
      · cases hv; exact hd
      · cases hv
    · cases hv
  case ln x =>
    simp only [Option.bind_eq_some_iff] at hv
    obtain ⟨u, hu, hv⟩ := hv
    split at hv
    · cases hv; exact hd
    · cases hv; exact hd
    · cases hv; exact hd
    · cases hv
  case ldr x =>
    simp only [Option.bind_eq_some_iff] at hv
    obtain ⟨u, hu, hv⟩ := hv
    split at hv
    · simp only [Option.bind_eq_some_iff] at hv
      obtain ⟨B, _, z, _, hl⟩ := hv
      exact says_lift hl hh
    · simp only [Option.bind_eq_some_iff] at hv
      obtain ⟨z, _, hl⟩ := hv
      exact says_lift hl hh
    · cases hv
  case nck x =>
    simp only [Option.bind_eq_some_iff] at hv
    obtain ⟨u, hu, hv⟩ := hv
    have := hx hu
    split at hv
    · cases hv; exact this
    · cases hv; exact this
    · cases hv
  case lns x =>
    simp only [Option.bind_eq_some_iff] at hv
    obtain ⟨u, hu, hv⟩ := hv
    split at hv
    · cases hv; exact hd
    · cases hv
  case mn x y =>
    simp only [Option.bind_eq_some_iff] at hv
    obtain ⟨u, _, u', _, hv⟩ := hv
    split at hv
    · cases hv; exact hd
    · cases hv
  case mx x y =>
    simp only [Option.bind_eq_some_iff] at hv
    obtain ⟨u, _, u', _, hv⟩ := hv
    split at hv
    · cases hv; exact hd
    · cases hv
  case ext x i =>
    simp only [Option.bind_eq_some_iff] at hv
    obtain ⟨u, hu, hv⟩ := hv
    have := hx hu
    split at hv
    · rename_i l
      intro b hb
      refine this b ?_
      have hmem := List.mem_of_getElem? hv
      simp only [V.says, List.any_eq_true]
      refine ⟨v, hmem, ?_⟩
      cases v with
      | tp l' => rfl
      | _ => simpa [V.says] using hb
    · cases hv
end
end Go.Proofs.R

/- A new block. -/
namespace Go.Proofs.R
open Go Go.RowKit
set_option linter.unusedSimpArgs false

theorem cell_alloc {w : World} {o : Obj} {b off : Nat} {y : Value} (h : w.cell? ⟨b, off, none⟩ = some y) : (w.alloc o).cell? ⟨b, off, none⟩ = some y := by
  have hb : b < w.heap.size := by
    unfold World.cell? at h
    split at h
    · rename_i hh; exact (Array.getElem?_eq_some_iff.1 hh).1
    · cases h
  unfold World.cell? at h ⊢
  rw [show (w.alloc o).heap[(⟨b, off, none⟩ : Addr).block]? = w.heap[(⟨b, off, none⟩ : Addr).block]? from Below.heap_alloc w o b hb]
  exact h

theorem cell_lt {w : World} {b off : Nat} {y : Value} (h : w.cell? ⟨b, off, none⟩ = some y) : b < w.heap.size := by
  unfold World.cell? at h
  split at h
  · rename_i hh; exact (Array.getElem?_eq_some_iff.1 hh).1
  · cases h

theorem heap_new (w : World) (o : Obj) : (w.alloc o).heap[w.heap.size]? = some o := heap_alloc_new w o
theorem size_new (w : World) (o : Obj) : (w.alloc o).heap.size = w.heap.size + 1 := by simp

theorem Fr.alloc {X : Nat → Prop} {w0 w : World} (h : Fr X w0 w) (o : Obj) : Fr X w0 (w.alloc o) :=
  ⟨h.os, h.tape, h.output, by rw [size_new]; exact Nat.le_succ_of_le h.size, fun g hg hx => by
    rw [Below.heap_alloc w o g (Nat.lt_of_lt_of_le hg h.size)]; exact h.block g hg hx⟩

theorem Keep.alloc (w : World) (O : Cells) (o : Obj) : Keep w O (w.alloc o) O := ⟨fun _ _ _ h hO => ⟨cell_alloc h, hO⟩, fun _ => RS.le_refl _⟩

theorem rdB_keep {w w' : World} {O O' : Cells} (h : Keep w O w' O') {l : List D} {arr : Array Value} (hr : rdB w O l arr) : rdB w' O' l arr := fun i d hd => by
  obtain ⟨h1, y, h2, h3⟩ := hr i d hd
  exact ⟨h1, y, h2, rd_keep h d y h3⟩
theorem rdB_of {w : World} {O : Cells} {l : List D} {arr : Array Value} (h : rdL w O l arr.toList) : rdB w O l arr := fun i d hd => by
  obtain ⟨h1, y, h2, h3⟩ := (rdL_get h).2 i d hd
  exact ⟨h1, y, by simpa using h2, h3⟩

/-- A block under a number. -/
def upd (m : Nat → Option (Nat × Nat)) (id : Nat) (p : Option (Nat × Nat)) : Nat → Option (Nat × Nat) := fun b => if b = id then p else m b

/-- What lies below the heap does not matter to it. -/
theorem refOf_low {m m' : Nat → Option (Nat × Nat)} {μ μ' : Mem} (h : ∀ b, 1099511627775 ≤ b → aget μ' b = aget μ b ∧ m' b = m b) : refOf m' μ' = refOf m μ := by
  funext c
  unfold refOf cntOf
  rw [(h 1099511627775 (by omega)).1]
  by_cases hc : c < 1099511627776
  · rw [if_pos (.inl hc), if_pos (.inl hc)]
  · rw [(h c (by omega)).1, (h c (by omega)).2]
theorem cntOf_low {μ μ' : Mem} (h : aget μ' 1099511627775 = aget μ 1099511627775) : cntOf μ' = cntOf μ := by unfold cntOf; rw [h]
theorem Heap.low {O0 : Outs} {m0 m m' : Nat → Option (Nat × Nat)} {nt : Nat} {μ μ' : Mem} (H : Heap O0 m0 m nt μ) (h : ∀ b, 1099511627775 ≤ b → aget μ' b = aget μ b ∧ m' b = m b) : Heap O0 m0 m' nt μ' := by
  have hc := cntOf_low (h 1099511627775 (by omega)).1
  refine ⟨H.ntb, by rw [hc]; exact H.cnt0, fun b hb hs => ?_, fun b hb hlt => ?_, ?_, fun b B hb hB => H.hpf b B hb (by rw [← (h b (by omega)).1]; exact hB)⟩
  · rw [(h b (by omega)).1] at hs
    rw [hc]; exact H.hlt b hb hs
  · rw [(h b (by omega)).1, (h b (by omega)).2]; exact H.hst b hb hlt
  · rw [(h 1099511627775 (by omega)).2]; exact H.hcn
theorem upd_low {m : Nat → Option (Nat × Nat)} {id : Nat} {p : Option (Nat × Nat)} {μ : Mem} {B : Blk} (hid : id < 1099511627775) : ∀ b, 1099511627775 ≤ b → aget (aput id B μ) b = aget μ b ∧ upd m id p b = m b := fun b hb => ⟨aget_aput_ne (by omega) _ _, by unfold upd; rw [if_neg (by omega)]⟩

section
variable {P : Program} {w0 w : World} {X : Nat → Prop} {O0 : Outs} {m0 m : Nat → Option (Nat × Nat)} {np nt : Nat} {e : Env} {μ : Mem} {a : Act}

theorem Keep.lay {id : Nat} (hid : id < 1099511627775) {B : Blk} {arr : Array Value} {T : TypeId} :
    Keep w (Ow O0 m μ) (w.alloc (.cells arr T (0, 0))) (Ow O0 (upd m id (some (w.heap.size, arr.size))) (aput id B μ)) := by
  refine ⟨?_, fun c => by show (refOf m μ c).le (refOf _ _ c); rw [refOf_low (upd_low hid)]; exact RS.le_refl _⟩
  intro b off y h hO
  refine ⟨cell_alloc h, fun hO' => hO ?_⟩
  have hb := cell_lt h
  rcases hO' with hO' | ⟨c, Bc, s, h1, h2, h3⟩
  · exact .inl hO'
  · by_cases hc : c = id
    · subst hc
      simp only [upd, if_true, Option.some.injEq, Prod.mk.injEq] at h2
      omega
    · rw [aget_aput_ne hc] at h1
      simp only [upd, if_neg hc] at h2
      exact .inr ⟨c, Bc, s, h1, h2, h3⟩

/-- A new block of the call's own. -/
theorem Rel.lay (R : Rel w0 X O0 m0 np nt m e μ a w) {id : Nat} (hid : np ≤ id) (hidh : id < 1099511627775) (hsay : ∀ t v, aget e t = some v → v.says id = false) {B : Blk} {arr : Array Value} {T : TypeId}
    (hr : rdL w (Ow O0 m μ) B.cells arr.toList ∨ (B.cells.length ≤ arr.size ∧ rdB w (Ow O0 m μ) B.cells arr)) :
    Rel w0 X O0 m0 np nt (upd m id (some (w.heap.size, arr.size))) e (aput id B μ) a (w.alloc (.cells arr T (0, 0))) := by
  have hK := Keep.lay hidh (w := w) (O0 := O0) (m := m) (μ := μ) (id := id) (B := B) (arr := arr) (T := T)
  have hne : ∀ t v, aget e t = some v → ∀ b, v.says b = true → upd m id (some (w.heap.size, arr.size)) b = m b := by
    intro t v h b hb
    unfold upd
    rw [if_neg]
    rintro rfl
    rw [hsay t v h] at hb
    cases hb
  have hr' : B.cells.length ≤ arr.size ∧ rdB w (Ow O0 m μ) B.cells arr := by
    rcases hr with hr | hr
    · exact ⟨by have := rdL_length hr; simp at this; omega, rdB_of hr⟩
    · exact hr
  refine ⟨R.size, R.defers, R.srt, fun t v h => ?_, fun t v h b hb => ?_, ⟨fun b Bb hB g s hm => ?_, fun b b' B1 B2 g s s' h1 h2 h3 h4 => ?_⟩, R.frame.alloc _, R.out, fun b Bb hb hB => ?_, fun b hb => ?_, R.heap.low (upd_low hidh)⟩
  · obtain ⟨y, h1, h2⟩ := R.env t v h
    exact ⟨y, h1, rv_keep hK (hne t v h) h2⟩
  · refine (R.says t v h b hb).mono (fun _ hs => ?_) (by rw [cntOf_low (aget_aput_ne (by omega) _ _)]; exact Nat.le_refl _)
    rw [aget_aput]
    split
    · rfl
    · exact hs
  · by_cases hbi : b = id
    · subst hbi
      rw [aget_aput_same] at hB
      cases hB
      simp only [upd, if_true, Option.some.injEq, Prod.mk.injEq] at hm
      obtain ⟨rfl, rfl⟩ := hm
      exact ⟨.inl R.frame.size, by rw [size_new]; omega, hr'.1, arr, T, heap_new _ _, rfl, rdB_keep hK hr'.2⟩
    · rw [aget_aput_ne hbi] at hB
      simp only [upd, if_neg hbi] at hm
      obtain ⟨h1, h2, h3, arr', T', h4, h5, h6⟩ := R.blks.blk b Bb hB g s hm
      exact ⟨h1, by rw [size_new]; omega, h3, arr', T', by rw [Below.heap_alloc w _ g h2]; exact h4, h5, rdB_keep hK h6⟩
  · by_cases hbi : b = id <;> by_cases hbi' : b' = id
    · rw [hbi, hbi']
    · subst hbi
      rw [aget_aput_ne hbi'] at h2
      simp only [upd, if_true, Option.some.injEq, Prod.mk.injEq] at h3
      simp only [upd, if_neg hbi'] at h4
      have := (R.blks.blk b' B2 h2 g s' h4).2.1
      omega
    · subst hbi'
      rw [aget_aput_ne hbi] at h1
      simp only [upd, if_true, Option.some.injEq, Prod.mk.injEq] at h4
      simp only [upd, if_neg hbi] at h3
      have := (R.blks.blk b B1 h1 g s h3).2.1
      omega
    · rw [aget_aput_ne hbi] at h1
      rw [aget_aput_ne hbi'] at h2
      simp only [upd, if_neg hbi] at h3
      simp only [upd, if_neg hbi'] at h4
      exact R.blks.inj b b' B1 B2 g s s' h1 h2 h3 h4
  · rw [aget_aput_ne (by omega)] at hB
    exact R.low b Bb hb hB
  · simp only [upd]
    rw [if_neg (by omega)]
    exact R.stay b hb

/-- The world grows by a block that nobody writes. -/
theorem Rel.grow (R : Rel w0 X O0 m0 np nt m e μ a w) (o : Obj) : Rel w0 X O0 m0 np nt m e μ a (w.alloc o) := by
  have hK := Keep.alloc w (Ow O0 m μ) o
  refine ⟨R.size, R.defers, R.srt, fun t v h => ?_, R.says, ⟨fun b Bb hB g s hm => ?_, R.blks.inj⟩, R.frame.alloc _, R.out, R.low, R.stay, R.heap⟩
  · obtain ⟨y, h1, h2⟩ := R.env t v h
    exact ⟨y, h1, rv_keep hK (fun _ _ => rfl) h2⟩
  · obtain ⟨h1, h2, h3, arr', T', h4, h5, h6⟩ := R.blks.blk b Bb hB g s hm
    exact ⟨h1, by rw [size_new]; omega, h3, arr', T', by rw [Below.heap_alloc w _ g h2]; exact h4, h5, rdB_keep hK h6⟩

/-- A slice that is nil, under a number. -/
theorem Rel.nil (R : Rel w0 X O0 m0 np nt m e μ a w) {id : Nat} (hid : np ≤ id) (hidh : id < 1099511627775) (hfresh : aget μ id = none) {B : Blk} :
    Rel w0 X O0 m0 np nt (upd m id none) e (aput id B μ) a w := by
  have hsay : ∀ t v, aget e t = some v → v.says id = false := by
    intro t v h
    cases hs : v.says id with
    | false => rfl
    | true => exact absurd (R.says t v h id hs) (Said.not hidh hfresh)
  have hK : Keep w (Ow O0 m μ) w (Ow O0 (upd m id none) (aput id B μ)) := by
    refine ⟨?_, fun c => by show (refOf m μ c).le (refOf _ _ c); rw [refOf_low (upd_low hidh)]; exact RS.le_refl _⟩
    intro b off y h hO
    refine ⟨h, fun hO' => hO ?_⟩
    rcases hO' with hO' | ⟨c, Bc, s, h1, h2, h3⟩
    · exact .inl hO'
    · by_cases hc : c = id
      · subst hc; simp [upd] at h2
      · rw [aget_aput_ne hc] at h1
        simp only [upd, if_neg hc] at h2
        exact .inr ⟨c, Bc, s, h1, h2, h3⟩
  refine ⟨R.size, R.defers, R.srt, fun t v h => ?_, fun t v h b hb => ?_, ⟨fun b Bb hB g s hm => ?_, fun b b' B1 B2 g s s' h1 h2 h3 h4 => ?_⟩, R.frame, R.out, fun b Bb hb hB => ?_, fun b hb => ?_, R.heap.low (upd_low hidh)⟩
  · obtain ⟨y, h1, h2⟩ := R.env t v h
    refine ⟨y, h1, rv_keep hK (fun b hb => ?_) h2⟩
    unfold upd
    rw [if_neg]
    rintro rfl
    rw [hsay t v h] at hb
    cases hb
  · refine (R.says t v h b hb).mono (fun _ hs => ?_) (by rw [cntOf_low (aget_aput_ne (by omega) _ _)]; exact Nat.le_refl _)
    rw [aget_aput]
    split
    · rfl
    · exact hs
  · by_cases hbi : b = id
    · subst hbi; simp [upd] at hm
    · rw [aget_aput_ne hbi] at hB
      simp only [upd, if_neg hbi] at hm
      obtain ⟨h1, h2, h3, arr', T', h4, h5, h6⟩ := R.blks.blk b Bb hB g s hm
      exact ⟨h1, h2, h3, arr', T', h4, h5, rdB_keep hK h6⟩
  · by_cases hbi : b = id
    · subst hbi; simp [upd] at h3
    · by_cases hbi' : b' = id
      · subst hbi'; simp [upd] at h4
      · rw [aget_aput_ne hbi] at h1
        rw [aget_aput_ne hbi'] at h2
        simp only [upd, if_neg hbi] at h3
        simp only [upd, if_neg hbi'] at h4
        exact R.blks.inj b b' B1 B2 g s s' h1 h2 h3 h4
  · rw [aget_aput_ne (by omega)] at hB
    exact R.low b Bb hb hB
  · simp only [upd]
    rw [if_neg (by omega)]
    exact R.stay b hb
end
end Go.Proofs.R

/- Operations that lay blocks. -/
namespace Go.Proofs.R
open Go Go.RowKit
set_option linter.unusedSimpArgs false

/-- What the environment says nothing of, and may not grow, stays. -/
def Quiet (dq : Option Nat) (m m' : Nat → Option (Nat × Nat)) (e e' : Env) (μ μ' : Mem) (v : V) : Prop :=
  ∀ id, id < 1099511627775 → some id ≠ dq → (∀ t u, aget e t = some u → u.says id = false) → (∃ B, aget μ id = some B ∧ B.fix = true) →
    m' id = m id ∧ aget μ' id = aget μ id ∧ v.says id = false ∧ ∀ t u, aget e' t = some u → u.says id = false

/-- The operation is done: a value, and the state behind it. -/
def Does (P : Program) (w0 : World) (X : Nat → Prop) (O0 : Outs) (m0 : Nat → Option (Nat × Nat)) (np nt : Nat) (m : Nat → Option (Nat × Nat)) (e : Env) (μ : Mem) (a : Act) (w : World) (o : Oper) (dq : Option Nat) (v : V) (e' : Env) (μ' : Mem) : Prop :=
  ∃ y w' m', (execOp a.eval o).run P w = .ok (.value y) w' ∧ Rel w0 X O0 m0 np nt m' e' μ' a w' ∧ rv m' w' (Ow O0 m' μ') v y ∧ (∀ b, v.says b = true → Said μ' b) ∧ Quiet dq m m' e e' μ μ' v

section
variable {P : Program} {w0 w : World} {X : Nat → Prop} {O0 : Outs} {m0 m : Nat → Option (Nat × Nat)} {np nt : Nat} {e : Env} {μ : Mem} {a : Act}
variable {ty : TypeId} {pos : String} {after : Array Edge} {gd : Option (Nat × Bool)} {d : Nat}

theorem says_fresh (R : Rel w0 X O0 m0 np nt m e μ a w) {id : Nat} (hid : id < 1099511627775) (h : aget μ id = none) : ∀ t v, aget e t = some v → v.says id = false := by
  intro t v hv
  cases hs : v.says id with
  | false => rfl
  | true => exact absurd (R.says t v hv id hs) (Said.not hid h)

/-- Behind a new block under a fresh number. -/
theorem Quiet.lay {id : Nat} {p : Option (Nat × Nat)} {B : Blk} {v : V} (hf : aget μ id = none) (hv : ∀ b, v.says b = true → b = id) : Quiet none m (upd m id p) e e μ (aput id B μ) v := by
  intro c _ _ hs hB
  have hc : c ≠ id := by
    rintro rfl
    obtain ⟨B', hB', _⟩ := hB
    rw [hf] at hB'
    cases hB'
  refine ⟨by simp [upd, hc], aget_aput_ne hc _ _, ?_, hs⟩
  cases h : v.says c with
  | false => rfl
  | true => exact absurd (hv c h) hc

theorem quiet_does (R : Rel w0 X O0 m0 np nt m e μ a w) {o : Oper} {h : Hint} {j : J} {v : V} (hc : cO P h o.dst o.type o.op = some j) (hq : j.quiet = true) (hv : val d e μ j = some v) :
    Does P w0 X O0 m0 np nt m e μ a w o none v e μ := by
  obtain ⟨y, h1, h2⟩ := quiet_ok R.envOk R.memOk hc hq hv
  refine ⟨y, w, m, h1, R, h2, says_val hq hv R.says (fun b hb hs => .inr ⟨hb, R.heap.hlt b hb hs⟩), fun id hidh _ hs _ => ⟨rfl, rfl, ?_, hs⟩⟩
  have := says_val (Q := fun b => b ≠ id) hq hv (fun t u ht b hb => by rintro rfl; rw [hs t u ht] at hb; cases hb) (fun b hb _ => by omega)
  cases hh : v.says id with
  | false => rfl
  | true => exact absurd rfl (this id hh)


theorem rv_ptr_new {g s : Nat} {O : Cells} : rv (upd m d (some (g, s))) w O (.ptr d 0) (.pointer (some ⟨g, 0, none⟩)) := by
  simp only [rv, rv1]; exact ⟨g, s, by simp [upd], rfl⟩


theorem run_newRow (t : TypeId) (cs : Array Value) : (newRow t cs).run P w = .ok ⟨w.heap.size, 0, none⟩ (w.alloc (.cells cs t (0, 0))) := rfl

theorem Ow_congr {μ μ' : Mem} (h : ∀ b, aget μ b = aget μ' b) : Ow O0 m μ = Ow O0 m μ' := by
  have h2 : refOf m μ = refOf m μ' := by funext c; unfold refOf cntOf; simp only [h]
  unfold Ow
  rw [h2]
  simp only [h]

theorem Rel.congr (R : Rel w0 X O0 m0 np nt m e μ a w) {μ' : Mem} (h : ∀ b, aget μ b = aget μ' b) : Rel w0 X O0 m0 np nt m e μ' a w := by
  have hO := Ow_congr (O0 := O0) (m := m) h
  refine ⟨R.size, R.defers, R.srt, ?_, ?_, ⟨?_, ?_⟩, R.frame, R.out, ?_, R.stay, R.heap.low fun b _ => ⟨(h b).symm, rfl⟩⟩
  · rw [← hO]; exact R.env
  · exact fun t v hv b hb => (R.says t v hv b hb).mono (fun _ hs => by rw [← h]; exact hs) (by unfold cntOf; rw [h]; exact Nat.le_refl _)
  · rw [← hO]; simp only [← h]; exact R.blks.blk
  · simp only [← h]; exact R.blks.inj
  · simp only [← h]; exact R.low

theorem says_ptr {b c off : Nat} (h : (V.ptr c off).says b = true) : b = c := by
  have : c = b := by simpa [V.says, V.says1] using h
  exact this.symm
theorem says_own {b c k off n : Nat} (h : (V.own c k off n).says b = true) : b = c := by
  have : c = b := by simpa [V.says, V.says1] using h
  exact this.symm

theorem box_does (R : Rel w0 X O0 m0 np nt m e μ a w) (hd : np ≤ d) (hdn : d < nt) {t : TypeId} {x : Operand} {x' : Go.Proofs.R.X} {u : V} {z : D} (hx : cX P t x = some x') (hu : x'.ev e = some u) (hz : toD μ u = some z) (hf : aget μ d = none) :
    Does P w0 X O0 m0 np nt m e μ a w ⟨some d, .box t x, ty, pos, after, gd⟩ none (.ptr d 0) e (aput d ⟨0, false, z.cells⟩ μ) := by
  have hr := toD_rd R.memOk (ev_ok R.envOk hx hu) hz
  have hL := R.lay (id := d) hd (by have := R.heap.ntb; omega) (says_fresh R (by have := R.heap.ntb; omega) hf) (B := ⟨0, false, z.cells⟩) (arr := (a.eval x).cells) (T := t) (.inl (rd_cells hr))
  refine ⟨_, _, _, ?_, hL, rv_ptr_new, fun b hb => ?_, Quiet.lay hf fun b hb => says_ptr hb⟩
  · simp only [execOp, Instr.box, newVar, Sem.run_bind, Sem.run_pure, Result.andThen_ok, run_newRow]
  · obtain rfl := says_ptr hb; exact .inl ⟨by have := R.heap.ntb; omega, by rw [aget_aput_same]; rfl⟩

theorem new_does (R : Rel w0 X O0 m0 np nt m e μ a w) (hd : np ≤ d) (hdn : d < nt) {t : TypeId} {z : List D} (hz : zeroD P t = some z) (hf : aget μ d = some ⟨0, true, z⟩) (hs : ∀ t v, aget e t = some v → v.says d = false) :
    Does P w0 X O0 m0 np nt m e μ a w ⟨some d, .alloc t, ty, pos, after, gd⟩ (some d) (.ptr d 0) e μ := by
  obtain ⟨i, zv, h1, h2, _, h4⟩ := zeroD_ok hz
  have hL := R.lay (id := d) hd (by have := R.heap.ntb; omega) hs (B := ⟨0, true, z⟩) (arr := zv.cells) (T := t) (.inl (h4 _ _))
  have hzv : (zeroValue t).run P w = .ok zv w := by simp [zeroValue, typeInfo, go_sem, h1, h2]
  have hμ : ∀ b, aget (aput d ⟨0, true, z⟩ μ) b = aget μ b := by
    intro b; rw [aget_aput]; split
    · rename_i hb; subst hb; exact hf.symm
    · rfl
  refine ⟨_, _, _, ?_, hL.congr hμ, rv_ptr_new, fun b hb => ?_, fun c _ hc0 hs' hB => ?_⟩
  · simp only [execOp, Instr.alloc, newVar, Sem.run_bind, Sem.run_pure, Result.andThen_ok, hzv, run_newRow]
  · obtain rfl := says_ptr hb; exact .inl ⟨by have := R.heap.ntb; omega, by rw [hf]; rfl⟩
  · have hc : c ≠ d := fun h => hc0 (by rw [h])
    refine ⟨by simp [upd, hc], rfl, ?_, hs'⟩
    cases h : (V.ptr d 0).says c with
    | false => rfl
    | true => exact absurd (says_ptr h) hc

theorem nil_does (R : Rel w0 X O0 m0 np nt m e μ a w) (hd : np ≤ d) (hdn : d < nt) {o : Oper} (ho : o.op = .move (.const (.slice none 0 0)) ∨ o.op = .assign (.const (.slice none 0 0))) {k : Nat} (hk : k ≠ 0) (hf : aget μ d = none) :
    Does P w0 X O0 m0 np nt m e μ a w o none (.own d k 0 0) e (aput d ⟨0, false, []⟩ μ) := by
  refine ⟨.slice none 0 0, w, upd m d none, ?_, R.nil hd (by have := R.heap.ntb; omega) hf, ?_, fun b hb => ?_, Quiet.lay hf fun b hb => says_own hb⟩
  · rcases ho with ho | ho <;> simp [execOp, ho, Sem.run_pure, Act.eval]
  · simp [rv, rv1, upd, hk]
  · obtain rfl := says_own hb; exact .inl ⟨by have := R.heap.ntb; omega, by rw [aget_aput_same]; rfl⟩

theorem flat_get {z : List D} {zs : List Value} (h : rdL w (Ow O0 m μ) z zs) (n : Nat) : rdL w (Ow O0 m μ) (List.replicate n z).flatten (List.replicate n zs).flatten := by
  induction n with
  | zero => simp [rdL]
  | succ n ih =>
    simp only [List.replicate_succ, List.flatten_cons]
    have app : ∀ {l l' : List D} {ys ys' : List Value}, rdL w (Ow O0 m μ) l ys → rdL w (Ow O0 m μ) l' ys' → rdL w (Ow O0 m μ) (l ++ l') (ys ++ ys') := by
      intro l
      induction l with
      | nil => intro l' ys ys' h h'; simp only [rdL] at h; subst h; simpa using h'
      | cons x r ih =>
        intro l' ys ys' h h'
        simp only [rdL] at h
        obtain ⟨y, t, rfl, h1, h2, h3⟩ := h
        simp only [List.cons_append, rdL]
        exact ⟨y, t ++ ys', rfl, h1, h2, ih h3 h'⟩
    exact app h ih

/-- The model's way to lay n zero values. -/
theorem zero_row (zs : Array Value) (n : Nat) : ((Array.range (n * zs.size)).map (zs[· % zs.size]!)).toList = (List.replicate n zs.toList).flatten := by
  rw [Array.toList_map, Array.toList_range]
  induction n with
  | zero => simp
  | succ n ih =>
    rw [Nat.succ_mul, List.range_add, List.map_append, ih, List.replicate_succ', List.flatten_append]
    congr 1
    simp only [List.flatten_cons, List.flatten_nil, List.append_nil, List.map_map]
    apply List.ext_getElem
    · simp
    · intro i h1 h2
      have hi : i < zs.size := by simpa using h1
      simp [Nat.mul_add_mod, Nat.add_mod, Nat.mod_eq_of_lt hi, hi]

theorem zero_ne {t : TypeId} {z : List D} (hz : zeroD P t = some z) {k : Nat} (hk : szOf P t = some k) :
    ∃ i zv, P.info? t = some i ∧ i.zero = some zv ∧ i.size = k ∧ z.length = k ∧ zv.cells.size = k ∧ ∀ w O, rdL w O z zv.cells.toList := by
  obtain ⟨i, zv, h1, h2, h3, h4⟩ := zeroD_ok hz
  obtain ⟨i', h5, h6⟩ := szOf_info hk
  rw [h1] at h5
  cases h5
  have := rdL_length (h4 default OF)
  refine ⟨i, zv, h1, h2, h6, by omega, by simpa [h3, h6] using this, h4⟩

theorem mk_does (R : Rel w0 X O0 m0 np nt m e μ a w) (hd : np ≤ d) (hdn : d < nt) {t el : TypeId} {l c : Operand} {z : List D} {i : TypeInfo} {ln cp : Nat} {kl kc : IntKind} (ht : P.underlying t = some (.slice el)) (hi : P.info? el = some i) (hz : zeroD P el = some z)
    (hs0 : i.size ≠ 0) (hl : a.eval l = .int kl (ln : Int)) (hcp : a.eval c = .int kc (cp : Int)) (h1 : ln ≤ cp) (h2 : i.bytes * cp ≤ 2 ^ 48) (h3 : cp < 2 ^ 63) (hf : aget μ d = none) :
    Does P w0 X O0 m0 np nt m e μ a w ⟨some d, .makeSlice t l c, ty, pos, after, gd⟩ none (.own d i.size 0 ln) e (aput d ⟨0, false, (List.replicate ln z).flatten⟩ μ) := by
  obtain ⟨i', zv, g1, g2, g3, g4, g5, g6⟩ := zero_ne (k := i.size) hz (by simp [szOf, hi])
  rw [hi] at g1; cases g1
  have hsz : (sizeOf el).run P w = .ok i.size w := by simp [sizeOf, typeInfo, go_sem, hi]
  have hti : (typeInfo el).run P w = .ok i w := by simp [typeInfo, go_sem, hi]
  have hzv : (zeroValue el).run P w = .ok zv w := by simp [zeroValue, typeInfo, go_sem, hi, g2]
  have hwl : IntKind.i64.wrap (ln : Int) = ln := by unfold IntKind.wrap; simp [IntKind.bits, IntKind.signed]; omega
  have hwc : IntKind.i64.wrap (cp : Int) = cp := by unfold IntKind.wrap; simp [IntKind.bits, IntKind.signed]; omega
  have hb : ¬ ((i.bytes : Int) * (cp : Int) > 2 ^ 48) := by
    have e1 : (2 : Int) ^ 48 = 281474976710656 := rfl
    have e2 : i.bytes * cp ≤ 281474976710656 := h2
    have e3 : (i.bytes : Int) * (cp : Int) = ((i.bytes * cp : Nat) : Int) := (Int.natCast_mul _ _).symm
    rw [e1, e3]
    omega
  have hfl := flat_get (w := w) (O0 := O0) (m := m) (μ := μ) (g6 _ _) cp
  obtain ⟨arr, harr⟩ : ∃ arr : Array Value, arr = (Array.range (cp * i.size)).map ((if cp * i.size = 0 then #[] else zv.cells)[· % (if cp * i.size = 0 then (#[] : Array Value) else zv.cells).size]!) := ⟨_, rfl⟩
  have hal : arr.toList = (List.replicate cp zv.cells.toList).flatten := by
    rw [harr]
    by_cases h0 : cp * i.size = 0
    · have : cp = 0 := by rcases Nat.mul_eq_zero.1 h0 with h | h; exact h; exact absurd h hs0
      subst this
      simp
    · simp only [if_neg h0]
      have := zero_row zv.cells cp
      rw [g5] at this ⊢
      exact this
  have hsize : arr.size = cp * i.size := by rw [harr]; simp
  have hrd : rdB w (Ow O0 m μ) (List.replicate ln z).flatten arr := by
    have hB : rdB w (Ow O0 m μ) (List.replicate cp z).flatten arr := rdB_of (by rw [hal]; exact hfl)
    intro j x hj
    refine hB j x ?_
    have hsplit : (List.replicate cp z).flatten = (List.replicate ln z).flatten ++ (List.replicate (cp - ln) z).flatten := by
      rw [← List.flatten_append, List.replicate_append_replicate]; congr 2; omega
    rw [hsplit, List.getElem?_append_left]
    · exact hj
    · exact (List.getElem?_eq_some_iff.1 hj).1
  have hlen : (List.replicate ln z).flatten.length = ln * i.size := by simp [g4]
  have hL := R.lay (id := d) hd (by have := R.heap.ntb; omega) (says_fresh R (by have := R.heap.ntb; omega) hf) (B := ⟨0, false, (List.replicate ln z).flatten⟩) (arr := arr) (T := el) (.inr ⟨by simp only [hlen, hsize]; exact Nat.mul_le_mul_right _ h1, hrd⟩)
  refine ⟨.slice (some ⟨w.heap.size, 0, none⟩) ln cp, _, _, ?_, hL, ?_, fun b hb => ?_, Quiet.lay hf fun b hb => says_own hb⟩
  · have hroom : ∀ n, (askRoom n).run P w = .ok () w := by
      intro n; unfold askRoom; split <;> rfl
    have hneg1 : ¬ ((cp : Int) < 0) := by omega
    have hneg2 : ¬ ((ln : Int) < 0) := by omega
    have hneg3 : ¬ ((ln : Int) > (cp : Int)) := by omega
    simp only [execOp, hl, hcp, Instr.makeSlice, asInt, asIntOf, Sem.run_bind, Sem.run_pure, Result.andThen_ok, run_underlying ht, hti, hwl, hwc]
    have hcond : (decide ((cp : Int) < 0) || decide ((i.bytes : Int) * (cp : Int) > 2 ^ 48) || decide ((ln : Int) < 0) || decide ((ln : Int) > (cp : Int))) = false := by
      simp only [hneg1, hb, hneg2, hneg3, decide_false, Bool.or_self]
    rw [if_neg (by rw [hcond]; decide)]
    by_cases h0 : cp * i.size = 0
    · simp only [if_pos h0] at harr
      simp only [Int.toNat_natCast, Sem.run_bind, hroom, hsz, Result.andThen_ok, if_pos h0, Sem.run_pure, run_newRow, ← harr]
    · simp only [if_neg h0] at harr
      simp only [Int.toNat_natCast, Sem.run_bind, hroom, hsz, Result.andThen_ok, if_neg h0, hzv, Sem.run_pure, run_newRow, ← harr]
  · simp only [rv, rv1, upd, if_true]
    exact ⟨hs0, 0, cp, rfl, h1, .inr rfl, by rw [hsize]; omega⟩
  · obtain rfl := says_own hb; exact .inl ⟨by have := R.heap.ntb; omega, by rw [aget_aput_same]; rfl⟩

/-- The row that a slice literal lays. -/
theorem run_lit (R : Rel w0 X O0 m0 np nt m e μ a w) {o : Oper} {t el : TypeId} {n k : Nat} {parts : Array (Nat × Operand)} {z : List D} {ps : List (Nat × Nat × Go.Proofs.R.X)} {l : List D} (ho : o.op = .buildSlice t n parts) (ht : P.underlying t = some (.slice el)) (hk : szOf P el = some k)
    (h24 : ¬ n * k > 2 ^ 24) (hz : zeroD P el = some z) (hps : cParts P (fun i => some (i * k, k, el)) parts.toList = some ps) (hl : fillD e μ ps (List.replicate n z).flatten = some l) :
    ∃ arr, (execOp a.eval o).run P w = .ok (.value (.slice (some ⟨w.heap.size, 0, none⟩) n n)) (w.alloc (.cells arr el (0, 0))) ∧ rdL w (Ow O0 m μ) l arr.toList ∧ arr.size = n * k := by
  obtain ⟨i, zv, g1, g2, g3, g4, g5, g6⟩ := zero_ne hz hk
  have hsz : (sizeOf el).run P w = .ok k w := by simp [sizeOf, typeInfo, go_sem, g1, g3]
  have hzv : (zeroValue el).run P w = .ok zv w := by simp [zeroValue, typeInfo, go_sem, g1, g2]
  have hfl := flat_get (w := w) (O0 := O0) (m := m) (μ := μ) (g6 _ _) n
  obtain ⟨base, hbase⟩ : ∃ arr : Array Value, arr = (Array.range (n * k)).map ((if n * k = 0 then #[] else zv.cells)[· % (if n * k = 0 then (#[] : Array Value) else zv.cells).size]!) := ⟨_, rfl⟩
  have hal : base.toList = (List.replicate n zv.cells.toList).flatten := by
    rw [hbase]
    by_cases h0 : n * k = 0
    · have hlen : ((List.replicate n zv.cells.toList).flatten).length = 0 := by simp [g5, h0]
      rw [List.length_eq_zero_iff.1 hlen]
      simp [h0]
    · simp only [if_neg h0]
      have := zero_row zv.cells n
      rw [g5] at this ⊢
      exact this
  obtain ⟨arr, h1, h2⟩ := fill_ok R.envOk R.memOk (place := fun i => some (i * k, k, el)) (pl := fun i => some (i * k, k)) (by intro i off n t hh; simp at hh; obtain ⟨rfl, rfl, _⟩ := hh; rfl) parts.toList ps _ l base hps hl (by rw [hal]; exact hfl)
  refine ⟨arr, ?_, h2, ?_⟩
  · have hmap : (parts.map fun p => (p.1, a.eval p.2)).toList = parts.toList.map fun p => (p.1, a.eval p.2) := by simp
    obtain ⟨dst, op, ty, pos, after, gd⟩ := o
    simp only at ho
    subst ho
    by_cases h0 : n * k = 0
    · simp only [if_pos h0] at hbase
      simp only [execOp, Instr.buildSlice, Sem.run_bind, Sem.run_pure, Result.andThen_ok, run_underlying ht, hsz, if_neg h24, if_pos h0, ← hbase, hmap, h1, run_newRow]
    · simp only [if_neg h0] at hbase
      simp only [execOp, Instr.buildSlice, Sem.run_bind, Sem.run_pure, Result.andThen_ok, run_underlying ht, hsz, if_neg h24, if_neg h0, hzv, ← hbase, hmap, h1, run_newRow]
  · have e1 := rdL_length h2
    have e2 : l.length = (List.replicate n z).flatten.length := by
      have : ∀ (ps : List (Nat × Nat × Go.Proofs.R.X)) (cs l : List D), fillD e μ ps cs = some l → l.length = cs.length := by
        intro ps
        induction ps with
        | nil => intro cs l h; simp only [fillD, Option.some.injEq] at h; rw [h]
        | cons p r ih =>
          obtain ⟨off, nn, x⟩ := p
          intro cs l h
          simp only [fillD, Option.bind_eq_some_iff] at h
          obtain ⟨v, _, zz, _, h⟩ := h
          split at h
          · rw [ih _ _ h, setAt_length]
          · cases h
      exact this ps _ l hl
    rw [← Array.length_toList, e1, e2]
    simp [g4, g3]

theorem lit_does (R : Rel w0 X O0 m0 np nt m e μ a w) {o : Oper} {t el : TypeId} {n k : Nat} {parts : Array (Nat × Operand)} {z : List D} {ps : List (Nat × Nat × Go.Proofs.R.X)} {l : List D} (ho : o.op = .buildSlice t n parts) (ht : P.underlying t = some (.slice el)) (hk : szOf P el = some k)
    (hk0 : k ≠ 0) (h24 : ¬ n * k > 2 ^ 24) (hz : zeroD P el = some z) (hps : cParts P (fun i => some (i * k, k, el)) parts.toList = some ps) (hl : fillD e μ ps (List.replicate n z).flatten = some l) :
    Does P w0 X O0 m0 np nt m e μ a w o none (.d (.sl k l)) e μ := by
  obtain ⟨arr, h1, h2, h3⟩ := run_lit R ho ht hk h24 hz hps hl
  have hlen := rdL_length h2
  have hK := Keep.alloc w (Ow O0 m μ) (.cells arr el (0, 0))
  refine ⟨_, _, m, h1, R.grow _, ?_, fun b hb => by simp [V.says, V.says1] at hb, fun id _ _ hs _ => ⟨rfl, rfl, by simp [V.says, V.says1], hs⟩⟩
  simp only [rv, rv1, rd]
  refine ⟨some ⟨w.heap.size, 0, none⟩, n, n, rfl, hk0, Nat.le_refl _, by rw [← hlen, Array.length_toList, h3], .inr ⟨w.heap.size, 0, rfl, ?_⟩⟩
  have hB : rdB (w.alloc (.cells arr el (0, 0))) (Ow O0 m μ) l arr := rdB_keep hK (rdB_of h2)
  refine (At.of_rdB hB (heap_new _ _)).rdC fun i hi hO => ?_
  rw [Nat.zero_add] at hO
  rcases hO with hO | ⟨b, B, s, hB, hm, _⟩
  · have := (R.out _ _ hO).1
    have := R.frame.size
    omega
  · have := (R.blks.blk b B hB _ _ hm).2.1
    omega

theorem lito_does (R : Rel w0 X O0 m0 np nt m e μ a w) (hd : np ≤ d) (hdn : d < nt) {o : Oper} {t el : TypeId} {n k : Nat} {parts : Array (Nat × Operand)} {z : List D} {ps : List (Nat × Nat × Go.Proofs.R.X)} {l : List D} (ho : o.op = .buildSlice t n parts) (ht : P.underlying t = some (.slice el)) (hk : szOf P el = some k)
    (hk0 : k ≠ 0) (h24 : ¬ n * k > 2 ^ 24) (hz : zeroD P el = some z) (hps : cParts P (fun i => some (i * k, k, el)) parts.toList = some ps) (hl : fillD e μ ps (List.replicate n z).flatten = some l) (hf : aget μ d = none) :
    Does P w0 X O0 m0 np nt m e μ a w o none (.own d k 0 n) e (aput d ⟨0, false, l⟩ μ) := by
  obtain ⟨arr, h1, h2, h3⟩ := run_lit R ho ht hk h24 hz hps hl
  have hL := R.lay (id := d) hd (by have := R.heap.ntb; omega) (says_fresh R (by have := R.heap.ntb; omega) hf) (B := ⟨0, false, l⟩) (arr := arr) (T := el) (.inl h2)
  refine ⟨_, _, _, h1, hL, ?_, fun b hb => ?_, Quiet.lay hf fun b hb => says_own hb⟩
  · simp only [rv, rv1, upd, if_true]
    exact ⟨hk0, 0, n, rfl, Nat.le_refl _, .inr rfl, by rw [h3]; omega⟩
  · obtain rfl := says_own hb; exact .inl ⟨by have := R.heap.ntb; omega, by rw [aget_aput_same]; rfl⟩
end
end Go.Proofs.R

/- Stores; append. -/
namespace Go.Proofs.R
open Go Go.RowKit
set_option linter.unusedSimpArgs false

theorem setAt_get {α : Type} : ∀ (ds l : List α) (i j : Nat), (setAt l i ds)[j]? = if i ≤ j ∧ j < i + ds.length then (if j < l.length then ds[j - i]? else none) else l[j]?
  | [], l, i, j => by
    simp only [setAt, List.length_nil, Nat.add_zero]
    rw [if_neg (by omega)]
  | x :: r, l, i, j => by
    simp only [setAt, List.length_cons]
    rw [setAt_get r (l.set i x) (i + 1) j]
    simp only [List.length_set]
    by_cases h1 : i + 1 ≤ j ∧ j < i + 1 + r.length
    · have h2 : i ≤ j ∧ j < i + (r.length + 1) := by omega
      simp only [if_pos h1, if_pos h2]
      rw [show j - i = (j - (i + 1)) + 1 by omega]; simp
    · simp only [if_neg h1]
      by_cases h2 : i = j
      · subst h2
        have h3 : i ≤ i ∧ i < i + (r.length + 1) := by omega
        simp only [if_pos h3, Nat.sub_self, List.getElem?_cons_zero]
        rw [List.getElem?_set]
        simp
      · have h3 : ¬ (i ≤ j ∧ j < i + (r.length + 1)) := by omega
        simp only [if_neg h3]
        rw [List.getElem?_set, if_neg h2]

theorem rd_oneCell {w : World} {O : Cells} {x : D} {y : Value} (h : rd w O x y) (h1 : x.one = true) : oneCell y = true := by
  cases x with
  | ag l => cases h1
  | int k n => simp only [rd] at h; subst h; rfl
  | bool b => simp only [rd] at h; subst h; rfl
  | str b => simp only [rd] at h; subst h; rfl
  | raw v =>
    simp only [rd] at h
    obtain ⟨rfl, h⟩ := h
    unfold rawOk at h
    split at h <;> first | rfl | cases h
  | sl k l => simp only [rd] at h; obtain ⟨a, n, c, rfl, _⟩ := h; rfl
  | ref c k off n => simp only [rd] at h; exact onRef_one h

theorem run_store1 {P : Program} {w : World} {g off : Nat} {arr : Array Value} {T : TypeId} {y : Value} (h : w.heap[g]? = some (.cells arr T (0, 0))) (ho : off < arr.size) (h1 : oneCell y = true) :
    (store ⟨g, off, none⟩ y).run P w = .ok () (w.setCell ⟨g, off, none⟩ y) := by
  have hc : w.cell? ⟨g, off, none⟩ = some arr[off] := by simp [World.cell?, h, ho]
  have hf : w.frozen? ⟨g, off, none⟩ = false := by simp [World.frozen?, h]
  rw [run_store P w _ y _ (by cases y <;> first | rfl | cases h1)]
  simp [hc, hf]

theorem run_storeCells {P : Program} {g off : Nat} {T : TypeId} : ∀ (vs : List Value) (i : Nat) (w : World) (arr : Array Value), w.heap[g]? = some (.cells arr T (0, 0)) → off + i + vs.length ≤ arr.size → (∀ y ∈ vs, oneCell y = true) →
    ∃ w' arr', (storeCells ⟨g, off, none⟩ vs i).run P w = .ok () w' ∧ w'.os = w.os ∧ w'.tape = w.tape ∧ w'.output = w.output ∧ w'.heap.size = w.heap.size ∧ (∀ g', g' ≠ g → w'.heap[g']? = w.heap[g']?) ∧
      w'.heap[g]? = some (.cells arr' T (0, 0)) ∧ arr'.toList = setAt arr.toList (off + i) vs
  | [], i, w, arr, h, _, _ => ⟨w, arr, rfl, rfl, rfl, rfl, rfl, fun _ _ => rfl, h, rfl⟩
  | y :: r, i, w, arr, h, hl, h1 => by
    have hl' : off + i < arr.size := by simp at hl; omega
    have e1 := run_store1 (P := P) (off := off + i) (y := y) h hl' (h1 y (by simp))
    have hg : (w.setCell ⟨g, off + i, none⟩ y).heap[g]? = some (.cells (arr.setIfInBounds (off + i) y) T (0, 0)) := by
      simp [World.setCell, Array.getElem?_modify, h]
    obtain ⟨w', arr', e2, e3, e4, e5, e6, e7, e8, e9⟩ := run_storeCells (P := P) (g := g) (off := off) (T := T) r (i + 1) (w.setCell ⟨g, off + i, none⟩ y) (arr.setIfInBounds (off + i) y) hg (by simp at hl ⊢; omega) fun z hz => h1 z (by simp [hz])
    refine ⟨w', arr', ?_, e3, e4, e5, by rw [e6]; simp [World.setCell], fun g' hg' => ?_, e8, ?_⟩
    · simp only [storeCells, Sem.run_bind, add_none, e1, Result.andThen_ok, e2]
    · rw [e7 g' hg']; exact Below.heap_setCell w _ y g' hg'
    · rw [e9]; simp only [Array.toList_setIfInBounds, setAt]; rfl

section
variable {P : Program} {w0 w : World} {X : Nat → Prop} {O0 : Outs} {m0 m : Nat → Option (Nat × Nat)} {np nt : Nat} {e : Env} {μ : Mem} {a : Act}

theorem rdB_set {w : World} {O : Cells} {l ds : List D} {arr arr' : Array Value} {zs : List Value} {off : Nat} (h : rdB w O l arr) (hd : rdL w O ds zs) (hl : l.length ≤ arr.size) (ha : arr'.toList = setAt arr.toList off zs) : rdB w O (setAt l off ds) arr' := by
  obtain ⟨hlen, H⟩ := rdL_get hd
  intro i x hx
  rw [setAt_get] at hx
  have e : arr'[i]? = arr'.toList[i]? := by simp
  rw [e, ha, setAt_get, hlen]
  split at hx
  · rename_i hi
    rw [if_pos hi]
    split at hx
    · rw [if_pos (by simp; omega)]
      exact H _ x hx
    · cases hx
  · rename_i hi
    rw [if_neg hi]
    simpa using h i x hx

/-- The heap's numbers do not turn where blocks stay. -/
theorem refOf_same {m : Nat → Option (Nat × Nat)} {μ μ' : Mem} (h : ∀ b, 1099511627776 ≤ b → (aget μ' b).isSome = (aget μ b).isSome) (hc : cntOf μ' = cntOf μ) : refOf m μ' = refOf m μ := by
  funext c
  unfold refOf
  rw [hc]
  by_cases hb : c < 1099511627776
  · rw [if_pos (.inl hb), if_pos (.inl hb)]
  · rw [h c (by omega)]
theorem Heap.same {m0 m : Nat → Option (Nat × Nat)} {nt : Nat} {μ μ' : Mem} (H : Heap O0 m0 m nt μ) (h : ∀ b, 1099511627776 ≤ b → (aget μ' b).isSome = (aget μ b).isSome) (hc : cntOf μ' = cntOf μ) (hq : ∀ b C, aget μ' b = some C → ∃ B, aget μ b = some B ∧ C.pub = B.pub ∧ C.fix = B.fix) : Heap O0 m0 m nt μ' := by
  refine ⟨H.ntb, by rw [hc]; exact H.cnt0, fun b hb hs => ?_, fun b hb hlt => ?_, H.hcn, fun b C hb hC => by obtain ⟨B, h1, h2, h3⟩ := hq b C hC; rw [h2, h3]; exact H.hpf b B hb h1⟩
  · rw [h b hb] at hs; rw [hc]; exact H.hlt b hb hs
  · rw [h b hb]; exact H.hst b hb hlt
theorem aput_same {μ : Mem} {b : Nat} {B C : Blk} (hB : aget μ b = some B) (hp : C.pub = B.pub) : (∀ c, (aget (aput b C μ) c).isSome = (aget μ c).isSome) ∧ cntOf (aput b C μ) = cntOf μ := by
  refine ⟨fun c => ?_, ?_⟩
  · rw [aget_aput]; split
    · rename_i h; subst h; rw [hB]; rfl
    · rfl
  · unfold cntOf
    by_cases h : 1099511627775 = b
    · subst h; rw [aget_aput_same, hB]; exact hp
    · rw [aget_aput_ne h]
theorem aput_pf {μ : Mem} {b : Nat} {B C : Blk} (hB : aget μ b = some B) (hp : C.pub = B.pub) (hf : C.fix = B.fix) : ∀ c D, aget (aput b C μ) c = some D → ∃ E, aget μ c = some E ∧ D.pub = E.pub ∧ D.fix = E.fix := fun c D h => by
  rw [aget_aput] at h
  split at h
  · rename_i hc; subst hc; cases h; exact ⟨B, hB, hp, hf⟩
  · exact ⟨D, h, rfl, rfl⟩

/-- Cells of a block of the call's own, not given away, are written. -/
theorem Rel.write (R : Rel w0 X O0 m0 np nt m e μ a w) {b : Nat} {B : Blk} {g s : Nat} (hB : aget μ b = some B) (hm : m b = some (g, s)) {arr : Array Value} {T : TypeId} (hg : w.heap[g]? = some (.cells arr T (0, 0)))
    {w' : World} {arr' : Array Value} {off : Nat} {zs : List Value} {cells' : List D} (h1 : w'.os = w.os) (h2 : w'.tape = w.tape) (h3 : w'.output = w.output) (h4 : w'.heap.size = w.heap.size) (h5 : ∀ g', g' ≠ g → w'.heap[g']? = w.heap[g']?)
    (h6 : w'.heap[g]? = some (.cells arr' T (0, 0))) (h7 : arr'.toList = setAt arr.toList off zs) (hp : B.pub ≤ off) (hc : cells'.length ≤ s) (hr : rdB w (Ow O0 m μ) cells' arr') :
    Rel w0 X O0 m0 np nt m e (aput b { B with cells := cells' } μ) a w' := by
  have hsame := aput_same (C := { B with cells := cells' }) hB rfl
  have hOw : Ow O0 m (aput b { B with cells := cells' } μ) = Ow O0 m μ := by
    have hr := refOf_same (m := m) (fun b _ => hsame.1 b) hsame.2
    unfold Ow
    rw [hr]
    congr 1
    funext g i
    simp only [eq_iff_iff]
    constructor
    · rintro (h | ⟨c, C, s, h1, h2, h3⟩)
      · exact .inl h
      · by_cases hc : c = b
        · subst hc; rw [aget_aput_same] at h1; cases h1; exact .inr ⟨c, B, s, hB, h2, h3⟩
        · rw [aget_aput_ne hc] at h1; exact .inr ⟨c, C, s, h1, h2, h3⟩
    · rintro (h | ⟨c, C, s, h1, h2, h3⟩)
      · exact .inl h
      · by_cases hc : c = b
        · subst hc; rw [hB] at h1; cases h1; exact .inr ⟨c, _, s, aget_aput_same _ _ _, h2, h3⟩
        · exact .inr ⟨c, C, s, by rw [aget_aput_ne hc]; exact h1, h2, h3⟩
  have hsz : arr'.size = arr.size := by rw [← Array.length_toList, h7, setAt_length]; simp
  have hK : Keep w (Ow O0 m μ) w' (Ow O0 m μ) := by
    refine ⟨?_, fun _ => RS.le_refl _⟩
    intro c i y hcell hO
    refine ⟨?_, hO⟩
    by_cases hcg : c = g
    · subst hcg
      have hi : i < off := by
        refine Nat.lt_of_not_le fun hle => hO (.inr ⟨b, B, s, hB, hm, Nat.le_trans hp hle⟩)
      simp only [World.cell?, hg] at hcell
      simp only [World.cell?, h6]
      have e1 : arr'[i]? = arr'.toList[i]? := by simp
      have e2 : arr[i]? = arr.toList[i]? := by simp
      simp only [Option.isSome_none, Bool.false_eq_true, if_false] at hcell ⊢
      rw [e1, h7, setAt_get, if_neg (by omega), ← e2]
      exact hcell
    · have := h5 c hcg
      simp only [World.cell?] at hcell ⊢
      rw [this]
      exact hcell
  obtain ⟨k1, k2, k3, arr0, T0, k4, k5, k6⟩ := R.blks.blk b B hB g s hm
  rw [hg] at k4
  cases k4
  refine ⟨R.size, R.defers, R.srt, fun t v h => ?_, fun t v h c hc' => ?_, ⟨fun c C hC g' s' hm' => ?_, fun c c' C C' g' s' s'' q1 q2 q3 q4 => ?_⟩, ⟨h1.trans R.frame.os, h2.trans R.frame.tape, h3.trans R.frame.output, by rw [h4]; exact R.frame.size, fun g' hg' hx => ?_⟩, R.out, fun c C hc' hC => ?_, R.stay, R.heap.same (fun b _ => hsame.1 b) hsame.2 (aput_pf hB rfl rfl)⟩
  · rw [hOw]
    obtain ⟨y, q1, q2⟩ := R.env t v h
    exact ⟨y, q1, rv_keep hK (fun _ _ => rfl) q2⟩
  · exact (R.says t v h c hc').mono (fun _ hs => by rw [hsame.1]; exact hs) (by rw [hsame.2]; exact Nat.le_refl _)
  · rw [hOw]
    by_cases hcb : c = b
    · subst hcb
      rw [aget_aput_same] at hC
      cases hC
      rw [hm] at hm'
      cases hm'
      exact ⟨k1, by rw [h4]; exact k2, hc, arr', _, h6, by rw [hsz]; exact k5, rdB_keep hK hr⟩
    · rw [aget_aput_ne hcb] at hC
      obtain ⟨q1, q2, q3, arr1, T1, q4, q5, q6⟩ := R.blks.blk c C hC g' s' hm'
      have hne : g' ≠ g := by
        rintro rfl
        exact hcb (R.blks.inj c b C B g' s' s hC hB hm' hm)
      exact ⟨q1, by rw [h4]; exact q2, q3, arr1, T1, by rw [h5 g' hne]; exact q4, q5, rdB_keep hK q6⟩
  · have f : ∀ {c C}, aget (aput b { B with cells := cells' } μ) c = some C → ∃ C', aget μ c = some C' := by
      intro c C h
      by_cases hcb : c = b
      · subst hcb; exact ⟨B, hB⟩
      · rw [aget_aput_ne hcb] at h; exact ⟨C, h⟩
    obtain ⟨C1, q1'⟩ := f q1
    obtain ⟨C2, q2'⟩ := f q2
    exact R.blks.inj c c' C1 C2 g' s' s'' q1' q2' q3 q4
  · have hne : g' ≠ g := by
      rintro rfl
      rcases k1 with k1 | k1
      · omega
      · exact hx k1
    rw [h5 g' hne]
    exact R.frame.block g' hg' hx
  · by_cases hcb : c = b
    · subst hcb
      rw [aget_aput_same] at hC
      cases hC
      exact R.low c B hc' hB
    · rw [aget_aput_ne hcb] at hC
      exact R.low c C hc' hC

variable {ty : TypeId} {pos : String} {after : Array Edge} {gd : Option (Nat × Bool)} {d : Nat}

theorem rdL_oneCell {w : World} {O : Cells} {l : List D} {ys : List Value} (h : rdL w O l ys) : ∀ y ∈ ys, oneCell y = true := by
  intro y hy
  obtain ⟨i, hi⟩ := List.getElem?_of_mem hy
  obtain ⟨hl, H⟩ := rdL_get h
  have hlt : i < l.length := by have := (List.getElem?_eq_some_iff.1 hi).1; omega
  obtain ⟨h1, z, hz, h2⟩ := H i l[i] (by simp [hlt])
  rw [hi] at hz
  cases hz
  exact rd_oneCell h2 h1

/-- A store. -/
theorem st_does (R : Rel w0 X O0 m0 np nt m e μ a w) {t : TypeId} {x y : Operand} {x' y' : Go.Proofs.R.X} {n b off : Nat} {u : V} {z : D} {B : Blk} (hn : szOf P t = some n) (hx : cX P 0 x = some x') (hy : cX P t y = some y') (hxe : x'.ev e = some (.ptr b off))
    (hye : y'.ev e = some u) (hz : toD μ u = some z) (hB : aget μ b = some B) (hlen : z.cells.length = n) (hle : off + n ≤ B.cells.length) (hp : B.pub ≤ off) :
    ∃ w', (execOp a.eval ⟨none, .store t x y, ty, pos, after, gd⟩).run P w = .ok .skip w' ∧ Rel w0 X O0 m0 np nt m e (aput b { B with cells := setAt B.cells off z.cells } μ) a w' := by
  have hr := toD_rd R.memOk (ev_ok R.envOk hy hye) hz
  have hcs := rd_cells hr
  have hpx := ev_ok R.envOk hx hxe
  simp only [rv, rv1] at hpx
  obtain ⟨g, s, hm, hpx⟩ := hpx
  obtain ⟨k1, k2, k3, arr, T, k4, k5, k6⟩ := R.blks.blk b B hB g s hm
  have hl := rdL_length hcs
  obtain ⟨w', arr', q1, q2, q3, q4, q5, q6, q7, q8⟩ := run_storeCells (P := P) (g := g) (off := off) (T := T) (a.eval y).cells.toList 0 w arr k4 (by rw [hl, hlen]; omega) (rdL_oneCell hcs)
  rw [Nat.add_zero] at q8
  refine ⟨w', ?_, R.write hB hm k4 q2 q3 q4 q5 q6 q7 q8 hp (by rw [setAt_length]; exact k3) (rdB_set k6 hcs (by omega) q8)⟩
  obtain ⟨i, hi, hin⟩ := szOf_info hn
  have hsz : (sizeOf t).run P w = .ok n w := by simp [sizeOf, typeInfo, go_sem, hi, hin]
  have hsize : (a.eval y).cells.size = n := by rw [← hlen, ← hl]; simp
  simp only [execOp, Instr.storeAt, Instr.sureAddr, hpx, Sem.run_bind, Sem.run_pure, Result.andThen_ok, storeVar, hsz, hsize, ne_eq, not_true_eq_false, if_false, q1]

theorem Rel.drop (R : Rel w0 X O0 m0 np nt m e μ a w) (b : Nat) : Rel w0 X O0 m0 np nt m (drop b e) μ a w :=
  ⟨R.size, R.defers, R.srt.filter _, fun t v h => R.env t v (aget_filter R.srt h).1, fun t v h => R.says t v (aget_filter R.srt h).1, R.blks, R.frame, R.out, R.low, R.stay, R.heap⟩
theorem drop_says (hs : Srt e) {b t : Nat} {v : V} (h : aget (drop b e) t = some v) : v.says b = false := by
  have := (aget_filter hs h).2
  simpa using this

theorem Fr.drew {X : Nat → Prop} {w0 w : World} (h : Fr X w0 w) : Fr X w0 w.drew := ⟨h.os, h.tape, h.output, h.size, h.block⟩
theorem Keep.drew {O : Cells} (w : World) : Keep w O w.drew O := ⟨fun _ _ _ h hO => ⟨h, hO⟩, fun _ => RS.le_refl _⟩
theorem Rel.drew (R : Rel w0 X O0 m0 np nt m e μ a w) : Rel w0 X O0 m0 np nt m e μ a w.drew :=
  ⟨R.size, R.defers, R.srt, fun t v h => let ⟨y, h1, h2⟩ := R.env t v h; ⟨y, h1, rv_keep (Keep.drew w) (fun _ _ => rfl) h2⟩, R.says,
    ⟨fun b B hB g s hm => let ⟨h1, h2, h3, arr, T, h4, h5, h6⟩ := R.blks.blk b B hB g s hm; ⟨h1, h2, h3, arr, T, h4, h5, rdB_keep (Keep.drew w) h6⟩, R.blks.inj⟩, R.frame.drew, R.out, R.low, R.stay, R.heap⟩

theorem growBy_le (n : Nat) : ∀ (r c : Nat), Builtin.growBy n r c ≤ max c (n + (n + 768) / 4)
  | 0, c => Nat.le_max_left _ _
  | r + 1, c => by
    simp only [Builtin.growBy]
    split
    · exact Nat.le_max_left _ _
    · rename_i h
      refine Nat.le_trans (growBy_le n r _) ?_
      rw [Nat.max_le]
      constructor
      · have : c + (c + 768) / 4 ≤ n + (n + 768) / 4 := by omega
        exact Nat.le_trans this (Nat.le_max_right _ _)
      · exact Nat.le_max_right _ _
theorem nextcap_le {need old : Nat} (h : old < need) : Builtin.nextslicecap need old ≤ 4 * need := by
  unfold Builtin.nextslicecap
  split
  · omega
  · split
    · omega
    · have := growBy_le need 4 old
      have h2 : max old (need + (need + 768) / 4) ≤ 4 * need := by rw [Nat.max_le]; omega
      omega

/-- Loading the first cells of a slice that reads as data. -/
theorem run_firstCells {w : World} {O : Cells} {k n : Nat} {l : List D} {y : Value} (h : rd w O (.sl k l) y) (hn : n * k = l.length) : ∃ c a, y = .slice a n c ∧ ∃ ys : List Value,
    (∀ w1 : World, (∀ b off z, w.cell? ⟨b, off, none⟩ = some z → w1.cell? ⟨b, off, none⟩ = some z) → (Builtin.firstCells k n y).run P w1 = .ok ⟨ys⟩ w1) ∧ rdL w O l ys := by
  simp only [rd] at h
  obtain ⟨ad, n', c, rfl, hk, hc, hl, hr⟩ := h
  obtain rfl : n' = n := Nat.eq_of_mul_eq_mul_right (Nat.pos_of_ne_zero hk) (by omega)
  refine ⟨c, ad, rfl, ?_⟩
  cases ad with
  | none =>
    obtain rfl : l = [] := by rcases hr with hr | ⟨b, off, h, _⟩; exact hr; cases h
    exact ⟨[], fun _ _ => rfl, by simp [rdL]⟩
  | some ad =>
    rcases hr with rfl | ⟨b, off, h, hr⟩
    · have h0 : n' * k = 0 := by simpa using hl
      refine ⟨[], fun w1 _ => ?_, by simp [rdL]⟩
      simp [Builtin.firstCells, h0, loadCells, loadCellsFrom, Sem.run_pure]
    · cases h
      obtain ⟨ys, g1, g2, g3⟩ := (At.of_rdC hr).list
      refine ⟨ys, fun w1 hw1 => ?_, g3⟩
      have := run_loadCellsFrom (P := P) (w := w1) ⟨b, off, none⟩ (n' * k) 0 #[] ys (by omega) (fun j y hy => by rw [add_none, Nat.zero_add]; exact hw1 _ _ _ (g2 j y hy))
      simp only [Builtin.firstCells, loadCells, this]
      simp
end
end Go.Proofs.R

/- append. -/
namespace Go.Proofs.R
open Go Go.RowKit
set_option linter.unusedSimpArgs false

section
variable {P : Program} {w0 w : World} {X : Nat → Prop} {O0 : Outs} {m0 m : Nat → Option (Nat × Nat)} {np nt : Nat} {e : Env} {μ : Mem} {a : Act}
variable {ty : TypeId} {pos : String} {after : Array Edge} {gd : Option (Nat × Bool)} {d : Nat}

theorem run_choose_cap (w : World) (need old : Nat) (el : TypeId) : ∃ c, need ≤ c ∧ (choose (.appendCap need old el)).run P w = .ok c w.drew :=
  ⟨need + w.tape w.drawn (.appendCap need old el) % (2 ^ 63 - need), Nat.le_add_right _ _, rfl⟩

/-- append in the model, where there is room. -/
theorem run_app_room {t u el : TypeId} {i : TypeInfo} {k n n' c c' : Nat} {base : Option Addr} {ad : Option Addr} {ys : List Value} {w' : World} (ht : P.underlying t = some (.slice el)) (hu : P.underlying u = some (.slice el)) (hi : P.info? el = some i) (hk : i.size = k)
    (hf : (Builtin.firstCells k n' (.slice ad n' c')).run P w = .ok ⟨ys⟩ w) (hroom : n + n' ≤ c) (hw : match (base : Option Addr) with | some ad => (storeCells (ad.add (n * k)) ys).run P w = .ok () w' | none => w' = w) :
    (Builtin.append_ #[t, u] ty #[.slice base n c, .slice ad n' c']).run P w = .ok (.slice base (n + n') c) w' := by
  have hsz : (sizeOf el).run P w = .ok k w := by simp [sizeOf, typeInfo, go_sem, hi, hk]
  unfold Builtin.append_
  simp only [Sem.run_bind, Sem.run_pure, Result.andThen_ok, run_underlying ht, run_underlying hu, hsz]
  simp only [List.getElem?_toArray, List.getElem?_cons_zero, List.getElem?_cons_succ, Sem.run_bind, Sem.run_pure, Result.andThen_ok, run_underlying ht, run_underlying hu, hsz, Builtin.lenOf]
  simp only [Bool.false_eq_true, if_false, Sem.run_bind, Sem.run_pure, Result.andThen_ok, if_pos hroom, Bool.not_false, if_true, hf]
  cases base with
  | none => simp only at hw; subst hw; simp only [Sem.run_pure]
  | some ad => simp only at hw; simp only [Sem.run_bind, hw, Result.andThen_ok, Sem.run_pure]

/-- append in the model, where there is none. -/
theorem run_app_grow {t u el : TypeId} {i : TypeInfo} {k n n' c c' : Nat} {base : Option Addr} {ad : Option Addr} {ys zs : List Value} {zv : Value} (ht : P.underlying t = some (.slice el)) (hu : P.underlying u = some (.slice el)) (hi : P.info? el = some i) (hk : i.size = k)
    (hb0 : i.bytes ≠ 0) (hz : i.zero = some zv) (hf : ∀ w : World, w = w0 ∨ w = w0.drew → (Builtin.firstCells k n' (.slice ad n' c')).run P w = .ok ⟨ys⟩ w) (hfo : (Builtin.firstCells k n (.slice base n c)).run P w0.drew = .ok ⟨zs⟩ w0.drew) (hroom : ¬ n + n' ≤ c) (hbytes : (n + n') * i.bytes ≤ 2 ^ 46) :
    ∃ cap, n + n' ≤ cap ∧ (Builtin.append_ #[t, u] ty #[.slice base n c, .slice ad n' c']).run P w0 =
      .ok (.slice (some ⟨w0.heap.size, 0, none⟩) (n + n') cap) (w0.drew.alloc (.cells (⟨zs⟩ ++ ⟨ys⟩ ++ Builtin.zeroCells zv.cells (cap - (n + n'))) el (0, 0))) := by
  obtain ⟨cap, hcap, hch⟩ := run_choose_cap (P := P) w0 (n + n') c el
  refine ⟨cap, hcap, ?_⟩
  have hsz : ∀ w : World, (sizeOf el).run P w = .ok k w := fun w => by simp [sizeOf, typeInfo, go_sem, hi, hk]
  have hti : ∀ w : World, (typeInfo el).run P w = .ok i w := fun w => by simp [typeInfo, go_sem, hi]
  have hzv : ∀ w : World, (zeroValue el).run P w = .ok zv w := fun w => by simp [zeroValue, typeInfo, go_sem, hi, hz]
  have hroom' : ∀ (w : World) (n : Nat), (askRoom n).run P w = .ok () w := by intro w n; unfold askRoom; split <;> rfl
  have hcb : ¬ Builtin.nextslicecap (n + n') c * i.bytes > 2 ^ 48 := by
    have h1 := Nat.mul_le_mul_right i.bytes (nextcap_le (need := n + n') (old := c) (by omega))
    have e1 : (2 : Nat) ^ 48 = 4 * 2 ^ 46 := by decide
    rw [e1]
    have h2 : 4 * (n + n') * i.bytes = 4 * ((n + n') * i.bytes) := Nat.mul_assoc _ _ _
    omega
  unfold Builtin.append_
  simp only [Sem.run_bind, Sem.run_pure, Result.andThen_ok, run_underlying ht, run_underlying hu, hsz]
  simp only [List.getElem?_toArray, List.getElem?_cons_zero, List.getElem?_cons_succ, Sem.run_bind, Sem.run_pure, Result.andThen_ok, run_underlying ht, run_underlying hu, hsz, Builtin.lenOf]
  simp only [Bool.false_eq_true, if_false, Sem.run_bind, Sem.run_pure, Result.andThen_ok, if_neg hroom, hti]
  rw [if_neg (by simp [hb0])]
  simp only [Sem.run_bind, Result.andThen_ok, hti, if_neg hcb, hch, hroom', hfo, Bool.not_false, if_true, hf _ (.inr rfl), hzv, run_newRow, Sem.run_pure]
  rfl

theorem run_append_op {t u : TypeId} {s x : Operand} {ρ : Operand → Value} {v : Value} {w' : World} {dst : Option Tmp} (h : (Builtin.append_ #[t, u] ty #[ρ s, ρ x]).run P w = .ok v w') :
    (execOp ρ ⟨dst, .call { callee := .builtin .append, args := #[s, x], argTypes := #[t, u] }, ty, pos, after, gd⟩).run P w = .ok (.value v) w' := by
  simp only [execOp, resolve, invoke, builtin, Sem.run_bind, Sem.run_pure, Result.andThen_ok, List.map_toArray, List.map_cons, List.map_nil, h]

theorem rdB_take {O : Cells} {l : List D} {arr : Array Value} (h : rdB w O l arr) (n : Nat) : rdB w O (l.take n) arr := by
  intro i x hx
  rw [List.getElem?_take] at hx
  split at hx
  · exact h i x hx
  · cases hx

/-- A slice that is nil has no cells to speak of. -/
theorem Rel.nilcells (R : Rel w0 X O0 m0 np nt m e μ a w) {b : Nat} {B : Blk} (hB : aget μ b = some B) (hm : m b = none) (cs : List D) : Rel w0 X O0 m0 np nt m e (aput b { B with cells := cs } μ) a w := by
  have hsame := aput_same (C := { B with cells := cs }) hB rfl
  have hOw : Ow O0 m (aput b { B with cells := cs } μ) = Ow O0 m μ := by
    have hr := refOf_same (m := m) (fun b _ => hsame.1 b) hsame.2
    unfold Ow
    rw [hr]
    congr 1
    funext g i
    simp only [eq_iff_iff]
    constructor
    · rintro (h | ⟨c, C, s, h1, h2, h3⟩)
      · exact .inl h
      · by_cases hc : c = b
        · subst hc; rw [hm] at h2; cases h2
        · rw [aget_aput_ne hc] at h1; exact .inr ⟨c, C, s, h1, h2, h3⟩
    · rintro (h | ⟨c, C, s, h1, h2, h3⟩)
      · exact .inl h
      · by_cases hc : c = b
        · subst hc; rw [hm] at h2; cases h2
        · exact .inr ⟨c, C, s, by rw [aget_aput_ne hc]; exact h1, h2, h3⟩
  refine ⟨R.size, R.defers, R.srt, by rw [hOw]; exact R.env, fun t v h c hc' => ?_, ⟨fun c C hC g' s' hm' => ?_, fun c c' C C' g' s' s'' q1 q2 q3 q4 => ?_⟩, R.frame, R.out, fun c C hc' hC => ?_, R.stay, R.heap.same (fun b _ => hsame.1 b) hsame.2 (aput_pf hB rfl rfl)⟩
  · exact (R.says t v h c hc').mono (fun _ hs => by rw [hsame.1]; exact hs) (by rw [hsame.2]; exact Nat.le_refl _)
  · rw [hOw]
    by_cases hcb : c = b
    · subst hcb; rw [hm] at hm'; cases hm'
    · rw [aget_aput_ne hcb] at hC; exact R.blks.blk c C hC g' s' hm'
  · by_cases hcb : c = b
    · subst hcb; rw [hm] at q3; cases q3
    · by_cases hcb' : c' = b
      · subst hcb'; rw [hm] at q4; cases q4
      · rw [aget_aput_ne hcb] at q1
        rw [aget_aput_ne hcb'] at q2
        exact R.blks.inj c c' C C' g' s' s'' q1 q2 q3 q4
  · by_cases hcb : c = b
    · subst hcb
      rw [aget_aput_same] at hC
      cases hC
      exact R.low c B hc' hB
    · rw [aget_aput_ne hcb] at hC
      exact R.low c C hc' hC

theorem app_does (R : Rel w0 X O0 m0 np nt m e μ a w) {t u el : TypeId} {s x : Operand} {i : TypeInfo} {b k n k'' : Nat} {l : List D} {B : Blk}
    (ht : P.underlying t = some (.slice el)) (hu : P.underlying u = some (.slice el)) (hi : P.info? el = some i) (hk : i.size = k) (hb0 : i.bytes ≠ 0) {z : List D} (hz0 : zeroD P el = some z) (hrs : rv m w (Ow O0 m μ) (.own b k 0 n) (a.eval s)) (hrx : rd w (Ow O0 m μ) (.sl k'' l) (a.eval x))
    (hB : aget μ b = some B) (hk'' : k'' = k ∨ l = []) (hle : n * k ≤ B.cells.length) (hp : B.pub ≤ n * k) (hfix : B.fix = false) (hbh : b < 1099511627775)
    (hby : (n * k + l.length) * i.bytes ≤ k * 2 ^ 46) :
    Does P w0 X O0 m0 np nt m e μ a w ⟨some d, .call { callee := .builtin .append, args := #[s, x], argTypes := #[t, u] }, ty, pos, after, gd⟩ none (.own b k 0 (n + l.length / k)) (drop b e) (aput b { B with cells := B.cells.take (n * k) ++ l } μ) := by
  have hk0 : k ≠ 0 := by simp only [rv, rv1] at hrs; exact hrs.1
  obtain ⟨n', hn', c', ad, hxv, ys, hf, hys⟩ : ∃ n', n' * k = l.length ∧ ∃ c' ad, a.eval x = .slice ad n' c' ∧ ∃ ys : List Value, (∀ w1 : World, (∀ b off z, w.cell? ⟨b, off, none⟩ = some z → w1.cell? ⟨b, off, none⟩ = some z) → (Builtin.firstCells k n' (a.eval x)).run P w1 = .ok ⟨ys⟩ w1) ∧ rdL w (Ow O0 m μ) l ys := by
    rcases hk'' with rfl | rfl
    · have h := hrx
      simp only [rd] at h
      obtain ⟨_, n', _, _, _, _, hl, _⟩ := h
      obtain ⟨c, ad, e1, ys, e2, e3⟩ := run_firstCells (P := P) hrx hl
      exact ⟨n', hl, c, ad, e1, ys, e2, e3⟩
    · have h := hrx
      simp only [rd] at h
      obtain ⟨ad, n', c, e1, hk2, _, hl, _⟩ := h
      have hn0 : n' = 0 := by
        rcases Nat.mul_eq_zero.1 (show n' * k'' = 0 by simpa using hl) with h | h
        · exact h
        · exact absurd h hk2
      subst hn0
      refine ⟨0, by simp, c, ad, e1, [], fun w1 _ => ?_, by simp [rdL]⟩
      rw [e1]
      cases ad <;> simp [Builtin.firstCells, loadCells, loadCellsFrom, Sem.run_pure]
  have hdiv : l.length / k = n' := by rw [← hn']; exact Nat.mul_div_cancel _ (Nat.pos_of_ne_zero hk0)
  have hyl := rdL_length hys
  have hcl : (B.cells.take (n * k) ++ l).length = (n + n') * k := by simp [Nat.add_mul]; omega
  have hbytes : (n + n') * i.bytes ≤ 2 ^ 46 := by
    have e1 : (n * k + l.length) * i.bytes = k * ((n + n') * i.bytes) := by
      rw [← hn', ← Nat.add_mul, Nat.mul_comm (n + n') k, Nat.mul_assoc]
    rw [e1] at hby
    exact Nat.le_of_mul_le_mul_left hby (Nat.pos_of_ne_zero hk0)
  have hQ : ∀ m' : Nat → Option (Nat × Nat), (∀ c, c ≠ b → m' c = m c) → Quiet none m m' e (drop b e) μ (aput b { B with cells := B.cells.take (n * k) ++ l } μ) (.own b k 0 (n + l.length / k)) := by
    intro m' hm' id _ _ hs' hfx
    have hne : id ≠ b := by
      rintro rfl
      obtain ⟨B', hB', hf'⟩ := hfx
      rw [hB] at hB'
      cases hB'
      rw [hfix] at hf'
      cases hf'
    refine ⟨hm' id hne, aget_aput_ne hne _ _, ?_, fun t u h => hs' t u (aget_filter R.srt h).1⟩
    cases h : (V.own b k 0 (n + l.length / k)).says id with
    | false => rfl
    | true => exact absurd (says_own h) hne
  have hsays : ∀ c, (V.own b k 0 (n + l.length / k)).says c = true → Said (aput b { B with cells := B.cells.take (n * k) ++ l } μ) c := by
    intro c hc
    obtain rfl := says_own hc
    exact .inl ⟨hbh, by rw [aget_aput_same]; rfl⟩
  have hbnp : np ≤ b := Nat.le_of_not_lt fun h => by have := R.low b B h hB; rw [hfix] at this; cases this
  obtain ⟨i', zv, hi', hz, hik, _, hzk, _⟩ := zero_ne (k := k) hz0 (by simp [szOf, hi, hk])
  rw [hi] at hi'
  cases hi'
  -- where the array is laid anew
  have grow : ∀ (base : Option Addr) (c : Nat) (zs : List Value), a.eval s = .slice base n c → ¬ n + n' ≤ c → (Builtin.firstCells k n (.slice base n c)).run P w.drew = .ok ⟨zs⟩ w.drew → rdL w (Ow O0 m μ) (B.cells.take (n * k)) zs →
      Does P w0 X O0 m0 np nt m e μ a w ⟨some d, .call { callee := .builtin .append, args := #[s, x], argTypes := #[t, u] }, ty, pos, after, gd⟩ none (.own b k 0 (n + l.length / k)) (drop b e) (aput b { B with cells := B.cells.take (n * k) ++ l } μ) := by
    intro base c zs hsv hroom hfo hzs
    have hf' : ∀ w1 : World, w1 = w ∨ w1 = w.drew → (Builtin.firstCells k n' (.slice ad n' c')).run P w1 = .ok ⟨ys⟩ w1 := by
      intro w1 hw1
      rw [← hxv]
      rcases hw1 with rfl | rfl
      · exact hf _ fun _ _ _ h => h
      · exact hf _ fun _ _ _ h => h
    obtain ⟨cap, hcap, hrun⟩ := run_app_grow (P := P) (ty := ty) (w0 := w) ht hu hi hk hb0 hz hf' hfo hroom hbytes
    have hzl := rdL_length hzs
    have hzl' : zs.length = n * k := by rw [hzl]; simp; omega
    obtain ⟨arr, harr⟩ : ∃ arr : Array Value, arr = ⟨zs⟩ ++ ⟨ys⟩ ++ Builtin.zeroCells zv.cells (cap - (n + n')) := ⟨_, rfl⟩
    rw [← harr] at hrun
    have hrd : rdB w.drew (Ow O0 m μ) (B.cells.take (n * k) ++ l) arr := by
      have h1 : rdL w (Ow O0 m μ) (B.cells.take (n * k) ++ l) (zs ++ ys) := by
        refine rdL_of (by simp [hzl, hyl]) fun j x hj => ?_
        rw [List.getElem?_append] at hj ⊢
        rw [hzl]
        split at hj
        · rename_i hlt; rw [if_pos hlt]; exact (rdL_get hzs).2 j x hj
        · rename_i hlt; rw [if_neg hlt]; exact (rdL_get hys).2 _ x hj
      intro j x hj
      obtain ⟨q1, y, q2, q3⟩ := (rdL_get h1).2 j x hj
      refine ⟨q1, y, ?_, rd_keep (Keep.drew w) x y q3⟩
      rw [harr]
      have : (zs ++ ys)[j]? = ((⟨zs⟩ : Array Value) ++ ⟨ys⟩)[j]? := by simp
      rw [Array.getElem?_append_left]
      · rw [← this]; exact q2
      · have := (List.getElem?_eq_some_iff.1 q2).1
        simpa using this
    have hsize : (n + n') * k ≤ arr.size ∧ cap * k ≤ arr.size := by
      have e1 : arr.size = zs.length + ys.length + (cap - (n + n')) * zv.cells.size := by rw [harr]; simp [Builtin.zeroCells]
      rw [hzk, hzl', hyl, ← hn', ← Nat.add_mul, ← Nat.add_mul] at e1
      rw [e1]
      exact ⟨Nat.mul_le_mul_right _ (by omega), Nat.mul_le_mul_right _ (by omega)⟩
    have hL := ((R.drop b).drew).lay (id := b) hbnp hbh (fun t v h => drop_says R.srt h) (B := { B with cells := B.cells.take (n * k) ++ l }) (arr := arr) (T := el) (.inr ⟨by simp only [hcl]; exact hsize.1, hrd⟩)
    refine ⟨_, _, _, run_append_op (by rw [hsv, hxv]; exact hrun), hL, ?_, hsays, hQ _ fun c hc => by simp [upd, hc]⟩
    simp only [rv, rv1, upd, if_true]
    exact ⟨hk0, 0, cap, by rw [hdiv]; rfl, by rw [hdiv]; exact hcap, .inr rfl, by simpa using hsize.2⟩
  have hlist : rdL w (Ow O0 m μ) (B.cells.take (n * k)) [] → B.cells.take (n * k) = [] := fun h => by
    have := rdL_length h; exact List.length_eq_zero_iff.1 this.symm
  cases hm : m b with
  | none =>
    have hrs' := hrs
    simp only [rv, rv1, hm] at hrs'
    obtain ⟨_, hsv, rfl, _⟩ := hrs'
    by_cases hn0 : n' = 0
    · subst hn0
      have hl0 : l = [] := List.length_eq_zero_iff.1 (by omega)
      subst hl0
      have hrun := run_app_room (P := P) (ty := ty) (base := none) (n := 0) (c := 0) (w' := w) ht hu hi hk (by rw [← hxv]; exact hf w fun _ _ _ h => h) (by omega) rfl
      have hR := (R.drop b).nilcells hB hm (B.cells.take (0 * k) ++ [])
      refine ⟨_, _, m, run_append_op (by rw [hsv, hxv]; exact hrun), hR, ?_, hsays, hQ m fun _ _ => rfl⟩
      simp only [rv, rv1, hm]
      exact ⟨hk0, by simp⟩
    · refine grow none 0 [] hsv (by omega) ?_ (by simp [rdL])
      simp [Builtin.firstCells, Sem.run_pure]
  | some p =>
    obtain ⟨g, sz⟩ := p
    have hrs' := hrs
    simp only [rv, rv1, hm] at hrs'
    obtain ⟨_, o, c, hsv, hnc, hco, hcs⟩ := hrs'
    obtain ⟨k1, k2, k3, arr, T, k4, k5, k6⟩ := R.blks.blk b B hB g sz hm
    by_cases hroom : n + n' ≤ c
    · -- in place
      have hck : (n + n') * k ≤ arr.size := by
        have := Nat.mul_le_mul_right k hroom
        omega
      obtain ⟨w', arr', q0, q1, q2, q3, q4, q5, q6, q7⟩ : ∃ w' arr', (storeCells ((⟨g, o, none⟩ : Addr).add (n * k)) ys).run P w = .ok () w' ∧ w'.os = w.os ∧ w'.tape = w.tape ∧ w'.output = w.output ∧ w'.heap.size = w.heap.size ∧ (∀ g', g' ≠ g → w'.heap[g']? = w.heap[g']?) ∧
          w'.heap[g]? = some (.cells arr' T (0, 0)) ∧ arr'.toList = setAt arr.toList (n * k) ys := by
        by_cases hn0 : n' = 0
        · subst hn0
          have : ys = [] := List.length_eq_zero_iff.1 (by rw [hyl]; omega)
          subst this
          exact ⟨w, arr, rfl, rfl, rfl, rfl, rfl, fun _ _ => rfl, k4, rfl⟩
        · obtain rfl : o = 0 := hco.resolve_left (by omega)
          obtain ⟨w', arr', e1, e2, e3, e4, e5, e6, e7, e8⟩ := run_storeCells (P := P) (g := g) (off := n * k) (T := T) ys 0 w arr k4 (by rw [hyl, ← hn', Nat.add_zero, ← Nat.add_mul]; exact hck) (rdL_oneCell hys)
          exact ⟨w', arr', by rw [add_none, Nat.zero_add]; exact e1, e2, e3, e4, e5, e6, e7, by rw [Nat.add_zero] at e8; exact e8⟩
      have hrun := run_app_room (P := P) (ty := ty) (base := some ⟨g, o, none⟩) (n := n) (c := c) (w' := w') ht hu hi hk (by rw [← hxv]; exact hf w fun _ _ _ h => h) hroom q0
      have hrd : rdB w (Ow O0 m μ) (B.cells.take (n * k) ++ l) arr' := by
        intro j x hj
        have htl : (B.cells.take (n * k)).length = n * k := by simp; omega
        rw [List.getElem?_append, htl] at hj
        have e1 : arr'[j]? = arr'.toList[j]? := by simp
        rw [e1, q7, setAt_get]
        split at hj
        · rename_i hlt
          rw [if_neg (by omega)]
          rw [List.getElem?_take, if_pos hlt] at hj
          simpa using k6 j x hj
        · rename_i hlt
          have hjl := (List.getElem?_eq_some_iff.1 hj).1
          have hr1 : n * k ≤ j ∧ j < n * k + ys.length := by omega
          rw [if_pos hr1, if_pos (by rw [Array.length_toList]; rw [Nat.add_mul] at hck; omega)]
          exact (rdL_get hys).2 _ x hj
      have hW := (R.drop b).write hB hm k4 q1 q2 q3 q4 q5 q6 q7 hp (by rw [hcl, ← k5]; exact hck) hrd
      refine ⟨_, _, m, run_append_op (by rw [hsv, hxv]; exact hrun), hW, ?_, hsays, hQ m fun _ _ => rfl⟩
      simp only [rv, rv1, hm]
      exact ⟨hk0, o, c, by rw [hdiv], by rw [hdiv]; exact hroom, hco, hcs⟩
    · have hnk : n * k ≤ arr.size := by omega
      refine grow (some ⟨g, o, none⟩) c ((arr.toList).take (n * k)) hsv hroom ?_ ?_
      · by_cases h0 : n * k = 0
        · simp [Builtin.firstCells, h0, loadCells, loadCellsFrom, Sem.run_pure]
        · have hn1 : n ≠ 0 := by rintro rfl; simp at h0
          obtain rfl : o = 0 := hco.resolve_left (by omega)
          have := run_loadCellsFrom (P := P) (w := w.drew) ⟨g, 0, none⟩ (n * k) 0 #[] (arr.toList.take (n * k)) (by simp; omega) (fun j y hy => by
            rw [add_none, Nat.zero_add, Nat.zero_add]
            rw [List.getElem?_take] at hy
            split at hy
            · have h4 : w.drew.heap[g]? = some (.cells arr T (0, 0)) := k4
              simpa [World.cell?, h4] using hy
            · cases hy)
          simp only [Builtin.firstCells, loadCells, this]
          simp
      · refine rdL_of (by simp; omega) fun j x hj => ?_
        rw [List.getElem?_take] at hj ⊢
        split at hj
        · rename_i hlt
          rw [if_pos hlt]
          simpa using k6 j x hj
        · cases hj
end
end Go.Proofs.R
