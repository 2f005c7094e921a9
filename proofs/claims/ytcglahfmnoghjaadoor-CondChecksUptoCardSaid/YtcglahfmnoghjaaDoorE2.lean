/- The engine's turning of code into what is to be proved of it. Conditions: none; this text holds definitions alone. -/
import Derived.Test.YtcglahfmnoghjaaDoorE1
namespace Go.Eng
open Go

variable {A : Nat → Type}
abbrev Pred (A : Nat → Type) := SV A → List (SO A) → Prop
abbrev SpecT (A : Nat → Type) := List (SV A) → List (SO A) → Pred A → Prop

def alive (sh : List (SO A)) (i : Nat) : Bool := match nth sh i with
  | some (.cells _ _) => true
  | some (.ivec _ _ _) => true
  | some (.svec _ _) => true
  | _ => false

/-- A value of one cell that can be stored. -/
def oneCell (sh : List (SO A)) : SV A → Bool
  | .int _ _ => true
  | .lit _ _ => true
  | .bl _ => true
  | .sb _ _ => true
  | .ptr i _ => alive sh i
  | .vec i => alive sh i
  | .rints _ _ => true
  | .rseq _ _ => true
  | .iface _ _ => true
  | .err _ _ => true
  | .fn _ _ _ => true
  | .val (.pointer none) => true
  | .val (.slice none 0 0) => true
  | .val .nilIface => true
  | .val .nilFunc => true
  | .val (.string _) => true
  | .val (.map none) => true
  | _ => false

/-- Cells that can be stored. -/
def storable (sh : List (SO A)) : SL A → Bool
  | .nil => true
  | .cell s r => if oneCell sh s then storable sh r else false
  | .run _ _ _ r => storable sh r

structure Eng (A : Nat → Type) where
  P : Program
  TT : Nat → SpecT A
  GL : Nat → Option (SL A)
  C : Enc A
  dec : (t : Nat) → SL A → Option (A t)
  qf : Nat → Bool
  eqT : Nat → Bool
  eqOk : ∀ t, eqT t = true → P.stoodInHeld t = false ∧ P.eqGuardType P.depth t = false
  encOk : ∀ t y, storable ([] : List (SO A)) (C.enc t y) = true
  encLen : ∀ t y, (C.enc t y).len = C.size t

inductive Ex where
  | normal
  | exit (id : Nat)
  | ret

abbrev Post (A : Nat → Type) := Ex → List (SV A) → List (SO A) → Nat → Prop

structure LoopAnn (A : Nat → Type) where
  X : Type
  inv : X → Prop
  meas : X → Nat
  slots : X → List (Nat × SV A)
  heap : X → List (Nat × SO A)
  more : X → List (SO A) := fun _ => []

abbrev Anns (A : Nat → Type) := Nat → List (SV A) → List (SO A) → Option (LoopAnn A)

def ofConst : Value → SV A
  | .int k n => .lit k n
  | .bool b => .bl b
  | v => .val v

def ev (E : Eng A) (ts : List (SV A)) : Operand → SV A
  | .tmp t => match nth ts t with
    | some s => s
    | none => .junk
  | .const v => ofConst v
  | .global g => match E.GL g with
    | some cs => .rptr cs 0
    | none => .junk
  | .func f => .fn (.func f) .nil .nil

/-- A vector that was let go is what it was let go as. -/
def rsl (sh : List (SO A)) : SV A → SV A
  | .vec i => match nth sh i with
    | some (.fr s) => s
    | _ => .vec i
  | s => s
def rslL (sh : List (SO A)) : SL A → SL A
  | .nil => .nil
  | .cell v r => .cell (rsl sh v) (rslL sh r)
  | .run k n xs r => .run k n xs (rslL sh r)
def evr (E : Eng A) (ts : List (SV A)) (sh : List (SO A)) (x : Operand) : SV A := rsl sh (ev E ts x)

def toSL (sh : List (SO A)) : SV A → Option (SL A)
  | .agg cs => if storable sh (rslL sh cs) then some (rslL sh cs) else none
  | s => if oneCell sh s then some (.cell s .nil) else none

def mkL : List (SV A) → SL A
  | [] => .nil
  | s :: l => .cell s (mkL l)
def unL : SL A → Option (List (SV A))
  | .nil => some []
  | .cell s r => match unL r with
    | some l => some (s :: l)
    | none => none
  | .run _ _ _ _ => none

/-! ## Types -/
def desc (P : Program) (t : TypeId) : TypeDesc := match P.underlying t with
  | some d => d
  | none => .invalid
def tsize (P : Program) (t : TypeId) : Nat := match P.info? t with
  | some i => i.size
  | none => 0
def aggT (P : Program) (t : TypeId) : Bool := match desc P t with
  | .struct _ => true
  | .array _ _ => true
  | _ => false
def intT (P : Program) (t : TypeId) : Option IntKind := match desc P t with
  | .int k => some k
  | _ => none
/-- A field's place and type. -/
def fieldOf (P : Program) (s : TypeId) (f : Nat) : Option (Nat × TypeId) := match desc P s with
  | .struct fs => match nth fs.toList f with
    | some x => if tsize P x.type = 0 then none else some (x.offset, x.type)
    | none => none
  | _ => none

mutual
def zeroSL (P : Program) : Nat → TypeId → Option (SL A)
  | 0, _ => none
  | d + 1, t => match desc P t with
    | .int k => some (.cell (.lit k 0) .nil)
    | .bool => some (.cell (.bl false) .nil)
    | .pointer _ => some (.cell (.val (.pointer none)) .nil)
    | .slice _ => some (.cell (.val (.slice none 0 0)) .nil)
    | .interface _ => some (.cell (.val .nilIface) .nil)
    | .func _ _ _ => some (.cell (.val .nilFunc) .nil)
    | .map _ _ => some (.cell (.val (.map none)) .nil)
    | .string => some (.cell (.val (.string .empty)) .nil)
    | .array n e => match desc P e with
      | .int k => some (.run k n (List.replicate n 0) .nil)
      | _ => match zeroSL P d e with
        | some x => some (repSL n x)
        | none => none
    | .struct fs => zeroFs P d fs.toList
    | _ => none
def zeroFs (P : Program) : Nat → List Field → Option (SL A)
  | _, [] => some .nil
  | 0, _ :: _ => none
  | d + 1, f :: fs => match zeroSL P d f.type with
    | some x => match zeroFs P d fs with
      | some y => some (x.app y)
      | none => none
    | none => none
def repSL : Nat → SL A → SL A
  | 0, _ => .nil
  | n + 1, x => x.app (repSL n x)
end

def isNilLike : Value → Value → Bool
  | .pointer none, .pointer none => true
  | .slice none 0 0, .slice none 0 0 => true
  | .nilIface, .nilIface => true
  | .nilFunc, .nilFunc => true
  | .map none, .map none => true
  | .string a, .string b => a.size == 0 && b.size == 0
  | _, _ => false
def zerosN (k : IntKind) : Nat → List Value → Option (List Value)
  | 0, vs => some vs
  | n + 1, .int k' m :: vs => if k = k' then (if m = 0 then zerosN k n vs else none) else none
  | _ + 1, _ => none
/-- Are these the zero cells? (Runs are held against zeros.) -/
def chkZ : SL A → List Value → Bool
  | .nil, [] => true
  | .cell (.lit k n) r, .int k' m :: vs => if k = k' then (if n = m then chkZ r vs else false) else false
  | .cell (.bl b) r, .bool c :: vs => if b = c then chkZ r vs else false
  | .cell (.val x) r, y :: vs => if isNilLike x y then chkZ r vs else false
  | .run k n _ r, vs => match zerosN k n vs with
    | some us => chkZ r us
    | none => false
  | _, _ => false
def tyZero (P : Program) (t : TypeId) : Option (SL A) := match P.info? t with
  | some i => match i.zero with
    | some z => match zeroSL P 12 t with
      | some cs => if chkZ cs z.cells.toList then some cs else none
      | none => none
    | none => none
  | none => none

/-! ## Arithmetic -/
def inI64 (x : Int) : Prop := -9223372036854775808 ≤ x ∧ x ≤ 9223372036854775807
def bitop (op : BinOp) (k : IntKind) (x y : Int) : Int := match op with
  | .and => k.wrap (BitVec.ofInt k.bits x &&& BitVec.ofInt k.bits y).toNat
  | .or => k.wrap (BitVec.ofInt k.bits x ||| BitVec.ofInt k.bits y).toNat
  | .xor => k.wrap (BitVec.ofInt k.bits x ^^^ BitVec.ofInt k.bits y).toNat
  | _ => k.wrap (BitVec.ofInt k.bits x &&& ~~~BitVec.ofInt k.bits y).toNat
def shl (k : IntKind) (x y : Int) : Int := k.wrap (x * 2 ^ (min y.toNat k.bits))
def shr (k : IntKind) (x y : Int) : Int := x.fdiv (2 ^ (min y.toNat k.bits))
def wr (k : IntKind) (x : Int) : Int := k.wrap x

def asInt : SV A → Option (IntKind × Int × Bool)
  | .int k n => some (k, n, false)
  | .lit k n => some (k, n, true)
  | _ => none
def asBool : SV A → Option Bool
  | .bl b => some b
  | .sb _ b => some b
  | _ => none

def mkInt (l : Bool) (k : IntKind) (n : Int) : SV A := if l then .lit k n else .int k n
def mkBool (l : Bool) (b : Bool) : SV A := if l then .bl b else .sb 0 b

def intBin (op : BinOp) (k : IntKind) (a b : Int) (l : Bool) (K : SV A → Prop) : Prop :=
  match op with
  | .add => match k, l with
    | .i64, false => inI64 (a + b) ∧ K (.int .i64 (a + b))
    | k, l => K (mkInt l k (wr k (a + b)))
  | .sub => match k, l with
    | .i64, false => inI64 (a - b) ∧ K (.int .i64 (a - b))
    | k, l => K (mkInt l k (wr k (a - b)))
  | .mul => match k, l with
    | .i64, false => inI64 (a * b) ∧ K (.int .i64 (a * b))
    | k, l => K (mkInt l k (wr k (a * b)))
  | .quo => b ≠ 0 ∧ K (mkInt l k (wr k (a.tdiv b)))
  | .rem => b ≠ 0 ∧ K (mkInt l k (a.tmod b))
  | .and => K (mkInt l k (bitop .and k a b))
  | .or => K (mkInt l k (bitop .or k a b))
  | .xor => K (mkInt l k (bitop .xor k a b))
  | .andNot => K (mkInt l k (bitop .andNot k a b))
  | .eql => K (mkBool l (a == b))
  | .neq => K (mkBool l (a != b))
  | .lss => K (mkBool l (decide (a < b)))
  | .leq => K (mkBool l (decide (a ≤ b)))
  | .gtr => K (mkBool l (decide (a > b)))
  | .geq => K (mkBool l (decide (a ≥ b)))
  | _ => False

/-- What is read of cells at a place, at a type. -/
def rdCells (P : Program) (t : TypeId) (cs : SL A) (off : Nat) : Option (SV A) :=
  if aggT P t then (match cs.sub off (tsize P t) with
    | some d => some (.agg d)
    | none => none) else cs.one off

/-- A type whose variables can be read here. -/
def okT (P : Program) (t : TypeId) : Bool := match desc P t with
  | .invalid => false
  | .array n e => match desc P e with
    | .int _ => if tsize P t = n then (if n = 0 then false else true) else false
    | _ => if tsize P t = 0 then false else true
  | _ => if tsize P t = 0 then false else true

/-- Equality of integers, and of arrays of integers. -/
def eq1 (P : Program) (t : TypeId) (x y : SV A) : Option Bool := match desc P t with
  | .int _ => match asInt x, asInt y with
    | some (k, a, _), some (k', b, _) => if k = k' then some (a == b) else none
    | _, _ => none
  | .array n e => match desc P e with
    | .int _ => if tsize P e = 1 then (match x, y with
      | .agg (.run k m xs .nil), .agg (.run k' m' ys .nil) => if k = k' then (if m = n then (if m' = n then some (xs == ys) else none) else none) else none
      | _, _ => none) else none
    | _ => none
  | _ => none
def eqFs (P : Program) (a b : SL A) : List Field → Option Bool
  | [] => some true
  | f :: fs => if f.name = "_" then none else (if okT P f.type then (match rdCells P f.type a f.offset, rdCells P f.type b f.offset with
    | some x, some y => match eq1 P f.type x y, eqFs P a b fs with
      | some p, some q => some (p && q)
      | _, _ => none
    | _, _ => none) else none)

def cmpT (P : Program) (t : TypeId) : Bool := match P.info? t with
  | some i => i.comparable
  | none => false

/-- Equality of values that are no integers. -/
def eqlS (E : Eng A) (t : TypeId) (cst : Bool) (x y : SV A) : Option Bool :=
  match desc E.P t with
  | .bool => match asBool x, asBool y with
    | some a, some b => some (a == b)
    | _, _ => none
  | .interface _ => match x, y with
    | .val .nilIface, .val .nilIface => if cst then some true else none
    | .val .nilIface, .iface _ _ => some false
    | .iface _ _, .val .nilIface => some false
    | .err _ n, .val .nilIface => if cst then some (n == 0) else none
    | .val .nilIface, .err _ n => if cst then some (n == 0) else none
    | .iface t1 v, .iface t2 u => match asInt v, asInt u with
      | some (k, a, _), some (k', b, _) => if t1 = t2 then (if k = k' then (if cmpT E.P t1 then (match desc E.P t1 with
        | .int _ => some (a == b)
        | _ => none) else none) else none) else some false
      | _, _ => none
    | _, _ => none
  | .pointer _ => match x, y with
    | .val (.pointer none), .val (.pointer none) => some true
    | _, _ => none
  | .array _ _ => if E.eqT t then eq1 E.P t x y else none
  | .struct fs => if E.eqT t then (match x, y with
    | .agg a, .agg b => eqFs E.P a b fs.toList
    | _, _ => none) else none
  | _ => none
/-- A pointer held against nil. -/
def ptrNil (E : Eng A) (t : TypeId) (sh : List (SO A)) (x y : SV A) : Bool := match desc E.P t with
  | .pointer _ => match x, y with
    | .ptr i _, .val (.pointer none) => alive sh i
    | .val (.pointer none), .ptr i _ => alive sh i
    | _, _ => false
  | _ => false

/-- A slice held against nil: what is known of the answer. -/
def slNil (E : Eng A) (t : TypeId) (sh : List (SO A)) (x y : SV A) : Option (Bool → Prop) := match desc E.P t with
  | .slice _ => match y with
    | .val (.slice none 0 0) => match x with
      | .rints _ xs => some fun b => xs ≠ [] → b = false
      | .rseq u xs => if E.C.size u = 0 then none else some fun b => xs ≠ [] → b = false
      | .vec i => match nth sh i with
        | some (.ivec _ _ xs) => some fun b => xs ≠ [] → b = false
        | some (.svec _ xs) => some fun b => xs ≠ [] → b = false
        | _ => none
      | .val (.slice none 0 0) => some fun b => b = true
      | _ => none
    | _ => none
  | _ => none

def isConst : Operand → Bool
  | .const _ => true
  | _ => false

def binS (E : Eng A) (op : BinOp) (t : TypeId) (cst : Bool) (sh : List (SO A)) (x y : SV A) (K : SV A → Prop) : Prop :=
  match asInt x, asInt y with
  | some (k, a, l), some (k', b, m) =>
    match op with
    | .shl => 0 ≤ b ∧ K (mkInt (l && m) k (shl k a b))
    | .shr => 0 ≤ b ∧ K (mkInt (l && m) k (shr k a b))
    | op => if k = k' then intBin op k a b (l && m) K else False
  | _, _ => match op with
    | .eql => if ptrNil E t sh x y then K (.bl false) else (match slNil E t sh x y with
      | some P => ∀ b, P b → K (.sb 0 b)
      | none => match eqlS E t cst x y with
        | some b => K (.sb 0 b)
        | none => False)
    | .neq => if ptrNil E t sh x y then K (.bl true) else (match slNil E t sh x y with
      | some P => ∀ b, P b → K (.sb 0 (!b))
      | none => match eqlS E t cst x y with
        | some b => K (.sb 0 (!b))
        | none => False)
    | _ => False

def unS (op : UnOp) (x : SV A) (K : SV A → Prop) : Prop :=
  match op, x with
  | .not, .bl b => K (.bl (!b))
  | .not, .sb _ b => K (.sb 0 (!b))
  | .neg, .lit k n => K (.lit k (wr k (0 - n)))
  | .neg, .int .i64 n => inI64 (0 - n) ∧ K (.int .i64 (0 - n))
  | .neg, .int k n => K (.int k (wr k (0 - n)))
  | .xor, .int k n => K (.int k (bitop .xor k (if k.signed then -1 else k.max) n))
  | .xor, .lit k n => K (.lit k (bitop .xor k (if k.signed then -1 else k.max) n))
  | _, _ => False

/-! ## Memory -/
/-- A read off a run that stands alone, at an open place. -/
def rdRun (P : Program) (t : TypeId) (k : IntKind) (xs : List Int) (j : Nat) (K : SV A → Prop) : Prop :=
  match desc P t with
  | .int k' => if k = k' then j < xs.length ∧ K (.int k (xs.getD j 0)) else False
  | .array n e => match desc P e with
    | .int k' => if k = k' then j + n ≤ xs.length ∧ K (.agg (.run k n ((xs.drop j).take n) .nil)) else False
    | _ => False
  | _ => False

def loadS (E : Eng A) (t : TypeId) (a : SV A) (sh : List (SO A)) (K : SV A → Prop) : Prop :=
  if okT E.P t then match a with
  | .ptr i off => match nth sh i with
    | some (.cells _ cs) => match rdCells E.P t cs off with
      | some v => K v
      | none => False
    | _ => False
  | .aptr i off n j => match nth sh i with
    | some (.cells _ cs) => match cs.runAt off with
      | some (k, m, xs) => if aggT E.P t then False else (if m = n then K (.int k (xs.getD j 0)) else False)
      | none => False
    | _ => False
  | .rptr (.run k _ xs .nil) off => rdRun E.P t k xs off K
  | .rptr cs off => match rdCells E.P t cs off with
    | some v => K v
    | none => False
  | .vptr i j size off => match nth sh i with
    | some (.ivec _ k xs) => if aggT E.P t then False else (if size = 1 then (if off = 0 then j < xs.length ∧ K (.int k (xs.getD j 0)) else False) else False)
    | some (.svec e xs) => if size = E.C.size e then j < xs.length ∧ ∀ y, xs[j]? = some y → match rdCells E.P t (E.C.enc e y) off with
      | some v => K v
      | none => False else False
    | _ => False
  | _ => False
  else False

def storeS (E : Eng A) (t : TypeId) (a v : SV A) (sh : List (SO A)) (K : List (SO A) → Prop) : Prop :=
  match a with
  | .ptr i off => match nth sh i with
    | some (.cells e cs) => match toSL sh v with
      | some d => if d.len = tsize E.P t then (if tsize E.P t = 0 then False else (match cs.put off d with
        | some cs' => K (setNth sh i (.cells e cs'))
        | none => False)) else False
      | none => False
    | _ => False
  | .aptr i off m j => match nth sh i with
    | some (.cells e cs) => match cs.runAt off, asInt v with
      | some (k, m', xs), some (k', n, _) => if k = k' then (if tsize E.P t = 1 then (if m' = m then K (setNth sh i (.cells e (cs.runSet off (xs.set j n)))) else False) else False) else False
      | _, _ => False
    | _ => False
  | .vptr i j size off => match nth sh i with
    | some (.ivec e k xs) => match asInt v with
      | some (k', n, _) => if k = k' then (if tsize E.P t = 1 then (if size = 1 then (if off = 0 then j < xs.length ∧ K (setNth sh i (.ivec e k (xs.set j n))) else False) else False) else False) else False
      | none => False
    | _ => False
  | _ => False

/-- A slice's own vector, let go: read alone from here on. -/
def letGo (sh : List (SO A)) : SV A → Option (SV A × List (SO A))
  | .vec i => match nth sh i with
    | some (.ivec _ k xs) => some (.rints k xs, setNth sh i (.fr (.rints k xs)))
    | some (.svec e xs) => some (.rseq e xs, setNth sh i (.fr (.rseq e xs)))
    | some (.fr s) => some (s, sh)
    | _ => none
  | s => some (s, sh)
def letGoL (sh : List (SO A)) : SL A → Option (SL A × List (SO A))
  | .nil => some (.nil, sh)
  | .cell v r => match letGo sh v with
    | some (v', sh1) => match letGoL sh1 r with
      | some (r', sh2) => some (.cell v' r', sh2)
      | none => none
    | none => none
  | .run k n xs r => match letGoL sh r with
    | some (r', sh2) => some (.run k n xs r', sh2)
    | none => none
def letGoV (sh : List (SO A)) : SV A → Option (SV A × List (SO A))
  | .agg cs => match letGoL sh cs with
    | some (cs', sh') => some (.agg cs', sh')
    | none => none
  | s => letGo sh s

mutual
/-- Are these the same? -/
def eqv : SV A → SV A → Prop
  | .int k n, .int k' m => if k = k' then n = m else False
  | .int k n, .lit k' m => if k = k' then n = m else False
  | .lit k n, .int k' m => if k = k' then n = m else False
  | .lit k n, .lit k' m => if k = k' then n = m else False
  | .bl a, .bl b => a = b
  | .bl a, .sb _ b => a = b
  | .sb _ a, .bl b => a = b
  | .sb _ a, .sb _ b => a = b
  | .vec i, .vec j => if i = j then True else False
  | .ptr i o, .ptr j p => if i = j then (if o = p then True else False) else False
  | .rints k xs, .rints k' ys => if k = k' then xs = ys else False
  | .rints _ xs, .val (.slice none 0 0) => xs = []
  | .rseq t xs, .rseq u ys => if h : u = t then xs = h ▸ ys else False
  | .rseq _ xs, .val (.slice none 0 0) => xs = []
  | .agg a, .agg b => eqvL a b
  | .tup a, .tup b => eqvL a b
  | .iface t a, .iface u b => if t = u then eqv a b else False
  | .err t n, .err u m => if t = u then n = m else False
  | .err _ n, .val .nilIface => n = 0
  | .err t n, .iface u (.int .i64 m) => if t = u then n = m ∧ m ≠ 0 else False
  | .err t n, .iface u (.lit .i64 m) => if t = u then n = m ∧ m ≠ 0 else False
  | .fn f a b, .fn g c d => f = g ∧ eqvL a c ∧ eqvL b d
  | .junk, _ => True
  | x, y => x = y
def eqvL : SL A → SL A → Prop
  | .nil, .nil => True
  | .cell a r, .cell b s => eqv a b ∧ eqvL r s
  | .run k n xs r, .run k' m ys s => if k = k' then (if n = m then xs = ys ∧ eqvL r s else False) else False
  | _, _ => False
end
def eqo : SO A → SO A → Prop
  | .dead, _ => True
  | .cells e a, .cells f b => if e = f then eqvL a b else False
  | .ivec e k xs, .ivec f k' ys => if e = f then (if k = k' then xs = ys else False) else False
  | .svec e xs, .svec f ys => if h : f = e then xs = h ▸ ys else False
  | x, y => x = y
def eqvs : List (SV A) → List (SV A) → Prop
  | [], [] => True
  | [a], [b] => eqv a b
  | a :: r, b :: s => eqv a b ∧ eqvs r s
  | _, _ => False
/-- What is wanted of the heap's first entries; the others are let go. -/
def eqos : List (SO A) → List (SO A) → Prop
  | [], _ => True
  | .dead :: r, _ :: s => eqos r s
  | a :: r, b :: s => eqo a b ∧ eqos r s
  | _, _ => False
end Go.Eng
