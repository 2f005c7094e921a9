/- The engine's turning of code into what is to be proved of it: operations, regions, code. Conditions: none; this text holds definitions alone. -/
import Derived.Test.YtcglahfmnoghjaaDoorE2
namespace Go.Eng
open Go
variable {A : Nat → Type}

/-! ## Slices -/
/-- How long a slice is. -/
def lenS (sh : List (SO A)) : SV A → Option (Int × Bool)
  | .rints _ xs => some ((xs.length : Nat), false)
  | .rseq _ xs => some ((xs.length : Nat), false)
  | .vec i => match nth sh i with
    | some (.ivec _ _ xs) => some ((xs.length : Nat), false)
    | some (.svec _ xs) => some ((xs.length : Nat), false)
    | _ => none
  | .asl i _ n => if alive sh i then some ((n : Nat), true) else none
  | .val (.slice none 0 0) => some (0, true)
  | .val (.string s) => some ((s.size : Nat), true)
  | _ => none

def indexS (E : Eng A) (t : TypeId) (x idx : SV A) (sh : List (SO A)) (K : SV A → Prop) : Prop :=
  match asInt idx with
  | none => False
  | some (_, i, l) => match desc E.P t with
    | .array n e => match x with
      | .ptr b off => match (match nth sh b with
          | some (.cells _ cs) => cs.runAt off
          | _ => none) with
        | some (_, m, _) => if tsize E.P e = 1 then (if m = n then 0 ≤ i ∧ i < (n : Nat) ∧ K (.aptr b off n i.toNat) else False) else False
        | none => if l then (if 0 ≤ i ∧ i < (n : Nat) then (if tsize E.P e = 0 then False else (if alive sh b then K (.ptr b (off + i.toNat * tsize E.P e)) else False)) else False) else False
      | .rptr (.run k m xs .nil) off => if tsize E.P e = 0 then False else 0 ≤ i ∧ i < (n : Nat) ∧ K (.rptr (.run k m xs .nil) (off + i.toNat * tsize E.P e))
      | .rptr cs off => if l then (if 0 ≤ i ∧ i < (n : Nat) then (if tsize E.P e = 0 then False else K (.rptr cs (off + i.toNat * tsize E.P e))) else False) else False
      | _ => False
    | .slice e => match x with
      | .rints k xs => if tsize E.P e = 1 then 0 ≤ i ∧ i < (xs.length : Nat) ∧ K (.rptr (.run k xs.length xs .nil) i.toNat) else False
      | .rseq u xs => if tsize E.P e = E.C.size u then if tsize E.P e = 0 then False else 0 ≤ i ∧ i < (xs.length : Nat) ∧ ∀ y, xs[i.toNat]? = some y → K (.rptr (E.C.enc u y) 0) else False
      | .vec j => match nth sh j with
        | some (.ivec _ _ xs) => if tsize E.P e = 1 then 0 ≤ i ∧ i < (xs.length : Nat) ∧ K (.vptr j i.toNat 1 0) else False
        | some (.svec u xs) => if tsize E.P e = E.C.size u then if tsize E.P e = 0 then False else 0 ≤ i ∧ i < (xs.length : Nat) ∧ K (.vptr j i.toNat (E.C.size u) 0) else False
        | _ => False
      | .asl b off n => if tsize E.P e = 1 then (if alive sh b then 0 ≤ i ∧ i < (n : Nat) ∧ K (.aptr b off n i.toNat) else False) else False
      | _ => False
    | _ => False

def fieldS (E : Eng A) (s : TypeId) (x : SV A) (sh : List (SO A)) (f : Nat) (K : SV A → Prop) : Prop :=
  match fieldOf E.P s f with
  | none => False
  | some (o, _) => match x with
    | .ptr i off => if alive sh i then K (.ptr i (off + o)) else False
    | .rptr (.run _ _ _ .nil) _ => False
    | .rptr cs off => K (.rptr cs (off + o))
    | .vptr i j size off => if alive sh i then K (.vptr i j size (off + o)) else False
    | _ => False

/-- A part of a struct's value. -/
def fieldVS (E : Eng A) (s : TypeId) (x : SV A) (f : Nat) (K : SV A → Prop) : Prop :=
  match fieldOf E.P s f with
  | none => False
  | some (o, t) => match x with
    | .agg cs => if okT E.P t then (match rdCells E.P t cs o with
      | some v => K v
      | none => False) else False
    | _ => False

/-- The bounds of a slice expression: low, high. -/
def boundS (ev : Operand → SV A) (x : Option Operand) (d : Int) : Option Int := match x with
  | none => some d
  | some o => match asInt (ev o) with
    | some (_, i, _) => some i
    | none => none

def sliceS (E : Eng A) (ev : Operand → SV A) (t : TypeId) (x : Operand) (lo hi mx : Option Operand) (sh : List (SO A)) (K : SV A → List (SO A) → Prop) : Prop :=
  match mx with
  | some _ => False
  | none => match desc E.P t with
    | .slice e => if tsize E.P e = 0 then False else match lenS sh (ev x) with
      | none => False
      | some (n, _) => match boundS ev lo 0, boundS ev hi n with
        | some l, some h => match ev x with
          | .rints k xs => if tsize E.P e = 1 then 0 ≤ l ∧ l ≤ h ∧ h ≤ n ∧ K (.rints k ((xs.take h.toNat).drop l.toNat)) sh else False
          | .rseq u xs => if tsize E.P e = E.C.size u then 0 ≤ l ∧ l ≤ h ∧ h ≤ n ∧ K (.rseq u ((xs.take h.toNat).drop l.toNat)) sh else False
          | .vec i => match lo, nth sh i with
            | none, some (.ivec e' k xs) => if tsize E.P e = 1 then 0 ≤ h ∧ h ≤ n ∧ K (.vec (cnt (setNth sh i .dead))) (snoc (setNth sh i .dead) (.ivec e' k (xs.take h.toNat))) else False
            | some _, some (.ivec _ k xs) => if tsize E.P e = 1 then 0 ≤ l ∧ l ≤ h ∧ h ≤ n ∧ K (.rints k ((xs.take h.toNat).drop l.toNat)) (setNth sh i (.fr (.rints k xs))) else False
            | _, _ => False
          | _ => False
        | _, _ => False
    | .array n e => match lo, hi, ev x with
      | none, none, .ptr b off => if tsize E.P e = 1 then (if 0 < n ∧ n ≤ 65536 then (if alive sh b then K (.asl b off n) sh else False) else False) else False
      | _, _, _ => False
    | _ => False

/-- A slice's elements, where they are integers: its kind and what they are. -/
def intsOfS (sh : List (SO A)) : SV A → Option (Option IntKind × List Int)
  | .rints k xs => some (some k, xs)
  | .vec i => match nth sh i with
    | some (.ivec _ k xs) => some (some k, xs)
    | _ => none
  | .asl i off n => match nth sh i with
    | some (.cells _ cs) => match cs.runAt off with
      | some (k, m, xs) => if m = n then some (some k, xs) else none
      | none => none
    | _ => none
  | .val (.slice none 0 0) => some (none, [])
  | _ => none
def castL {t : Nat} (u : Nat) (xs : List (A t)) : Option (List (A u)) := if h : t = u then some (h ▸ xs) else none
def seqOfS (t : Nat) (sh : List (SO A)) : SV A → Option (List (A t))
  | .rseq _ xs => castL t xs
  | .vec i => match nth sh i with
    | some (.svec _ xs) => castL t xs
    | _ => none
  | .val (.slice none 0 0) => some []
  | _ => none
def kindOk : Option IntKind → IntKind → Bool
  | none, _ => true
  | some k, k' => if k = k' then true else false

def tbytes (P : Program) (t : TypeId) : Nat := match P.info? t with
  | some i => i.bytes
  | none => 0

def appendS (E : Eng A) (t : TypeId) (s x : SV A) (sh : List (SO A)) (K : SV A → List (SO A) → Prop) : Prop :=
  match desc E.P t with
  | .slice e => match tyZero (A := A) E.P e with
    | none => False
    | some z => if z.len = tsize E.P e then (match intT E.P e with
      | some k => if tsize E.P e = 1 then (match intsOfS sh x with
        | some (k', ys) => if kindOk k' k then (match s with
          | .vec i => match nth sh i with
            | some (.ivec e' k2 xs) => if e' = e then (if k2 = k then (xs.length + ys.length) * tbytes E.P e ≤ 140737488355328 ∧ xs.length + ys.length ≤ 1152921504606846976 ∧ K (.vec (cnt (setNth sh i .dead))) (snoc (setNth sh i .dead) (.ivec e k (xs ++ ys))) else False) else False
            | _ => False
          | .val (.slice none 0 0) => ys.length * tbytes E.P e ≤ 140737488355328 ∧ ys.length ≤ 1152921504606846976 ∧ K (.vec (cnt sh)) (snoc sh (.ivec e k ys))
          | _ => False) else False
        | none => False) else False
      | none => if tsize E.P e = E.C.size e then (if tsize E.P e = 0 then False else (match seqOfS e sh x with
        | some ys => match s with
          | .vec i => match nth sh i with
            | some (.svec _e' xs') => match castL e xs' with
              | some xs => (xs.length + ys.length) * tbytes E.P e ≤ 140737488355328 ∧ xs.length + ys.length ≤ 1152921504606846976 ∧ K (.vec (cnt (setNth sh i .dead))) (snoc (setNth sh i .dead) (.svec e (xs ++ ys)))
              | none => False
            | _ => False
          | .val (.slice none 0 0) => ys.length * tbytes E.P e ≤ 140737488355328 ∧ ys.length ≤ 1152921504606846976 ∧ K (.vec (cnt sh)) (snoc sh (.svec e ys))
          | _ => False
        | none => False)) else False) else False
  | _ => False

def copyInts (old xs : List Int) : List Int := xs.take old.length ++ old.drop xs.length

def copyS (E : Eng A) (t : TypeId) (d s : SV A) (sh : List (SO A)) (K : SV A → List (SO A) → Prop) : Prop :=
  match desc E.P t with
  | .slice el => if tsize E.P el = 1 then (match intsOfS sh s with
    | none => False
    | some (k', xs) => match d with
      | .asl i off n => match nth sh i with
        | some (.cells e cs) => match cs.runAt off with
          | some (k, m, old) => if m = n then (if kindOk k' k then K (.int .i64 (min xs.length n : Nat)) (setNth sh i (.cells e (cs.runSet off (copyInts old xs)))) else False) else False
          | none => False
        | _ => False
      | .vec i => match nth sh i with
        | some (.ivec e k old) => if kindOk k' k then K (.int .i64 (min xs.length old.length : Nat)) (setNth sh i (.ivec e k (copyInts old xs))) else False
        | _ => False
      | _ => False) else False
  | _ => False

def builtinS (E : Eng A) (b : Builtin) (types : List TypeId) (args : List (SV A)) (sh : List (SO A)) (K : SV A → List (SO A) → Prop) : Prop :=
  match b, types, args with
  | .len, [t], [x] => match desc E.P t with
    | .slice _ => match x with
      | .val (.string _) => False
      | x => match lenS sh x with
        | some (n, l) => if l then K (.lit .i64 n) sh else (n ≤ 9223372036854775807 → K (.int .i64 n) sh)
        | none => False
    | .array n _ => K (.lit .i64 (n : Nat)) sh
    | _ => False
  | .append, [t, u], [s, x] => if t = u then appendS E t s x sh K else False
  | .copy, [t, _], [d, s] => copyS E t d s sh K
  | .min, _, [x, y] => match asInt x, asInt y with
    | some (k, a, l), some (k', b, m) => if k = k' then K (mkInt (l && m) k (min a b)) sh else False
    | _, _ => False
  | .max, _, [x, y] => match asInt x, asInt y with
    | some (k, a, l), some (k', b, m) => if k = k' then K (mkInt (l && m) k (max a b)) sh else False
    | _, _ => False
  | _, _, _ => False

/-- The elements of a slice that is written out. -/
def decAll (E : Eng A) (t : Nat) (sh : List (SO A)) : List (SV A) → (List (A t) → List (SO A) → Prop) → Prop
  | [], K => K [] sh
  | s :: l, K => match letGoV sh s with
    | some (v, sh1) => match toSL sh1 v with
      | some cs => match E.dec t cs with
        | some y => eqvL (E.C.enc t y) cs ∧ decAll E t sh1 l fun ys sh2 => K (y :: ys) sh2
        | none => False
      | none => False
    | none => False
def intAll (k : IntKind) : List (SV A) → Option (List Int)
  | [] => some []
  | s :: l => match asInt s, intAll k l with
    | some (k', n, _), some ns => if k = k' then some (n :: ns) else none
    | _, _ => none

/-- The parts of a slice that is written out, in order and whole. -/
def partsInOrder : Nat → List (Nat × SV A) → Option (List (SV A))
  | _, [] => some []
  | n, (i, s) :: l => if i = n then (match partsInOrder (n + 1) l with
    | some r => some (s :: r)
    | none => none) else none

def buildSliceS (E : Eng A) (t : TypeId) (n : Nat) (parts : List (Nat × SV A)) (sh : List (SO A)) (K : SV A → List (SO A) → Prop) : Prop :=
  match desc E.P t with
  | .slice e => match tyZero (A := A) E.P e with
    | none => False
    | some z => if z.len = tsize E.P e then (match partsInOrder 0 parts with
      | some l => if cnt l = n then (if n * tsize E.P e ≤ 65536 then (match intT E.P e with
        | some k => if tsize E.P e = 1 then (match intAll k l with
          | some ns => K (.vec (cnt sh)) (snoc sh (.ivec e k ns))
          | none => False) else False
        | none => if tsize E.P e = E.C.size e then (if tsize E.P e = 0 then False else decAll E e sh l fun ys sh1 => K (.vec (cnt sh1)) (snoc sh1 (.svec e ys))) else False) else False) else False
      | none => False) else False
  | _ => False

/-- A struct or an array that is written out: parts laid over zeros. -/
def fillS (P : Program) (place : Nat → Option (Nat × Nat)) (sh : List (SO A)) : SL A → List (Nat × SV A) → Option (SL A)
  | cs, [] => some cs
  | cs, (i, s) :: l => match place i, toSL sh s with
    | some (o, size), some d => if d.len = size then (match cs.put o d with
      | some cs' => fillS P place sh cs' l
      | none => none) else none
    | _, _ => none
def placeOf (P : Program) (t : TypeId) (i : Nat) : Option (Nat × Nat) := match desc P t with
  | .struct fs => match nth fs.toList i with
    | some f => some (f.offset, tsize P f.type)
    | none => none
  | .array _ e => some (i * tsize P e, tsize P e)
  | _ => none
/-- An array of integers that is written out. -/
def intsParts (k : IntKind) (n : Nat) (parts : List (Nat × SV A)) : Option (List Int) := match partsInOrder 0 parts with
  | some l => if cnt l = n then intAll k l else none
  | none => none
def sizedAll (P : Program) : List Field → Bool
  | [] => true
  | f :: l => if tsize P f.type = 0 then false else sizedAll P l
def buildOk (P : Program) (t : TypeId) : Bool := match desc P t with
  | .struct fs => sizedAll P fs.toList
  | .array _ e => if tsize P e = 0 then false else true
  | _ => false
def zeroOk (A : Nat → Type) (P : Program) (t e : TypeId) (n : Nat) : Bool := if tsize P e = 1 then (match tyZero (A := A) P t with
  | some z => if z.len = n then true else false
  | none => false) else false
theorem zeroOk_spec {P : Program} {t e : TypeId} {n : Nat} (h : zeroOk A P t e n = true) : tsize P e = 1 ∧ ∃ z, tyZero (A := A) P t = some z ∧ z.len = n := by
  unfold zeroOk at h
  split at h
  · split at h
    · split at h
      · exact ⟨by assumption, _, by assumption, by assumption⟩
      · cases h
    · cases h
  · cases h
def buildS (E : Eng A) (t : TypeId) (parts : List (Nat × SV A)) (sh : List (SO A)) (K : SV A → Prop) : Prop :=
  match (match desc E.P t with
    | .array n e => match intT E.P e with
      | some k => match parts with
        | [] => none
        | _ => match intsParts k n parts with
          | some ns => if zeroOk A E.P t e n then some (SL.run k n ns .nil) else none
          | none => none
      | none => none
    | _ => none) with
  | some cs => K (.agg cs)
  | none => if buildOk E.P t then (match tyZero E.P t with
    | some z => match fillS E.P (placeOf E.P t) sh z parts with
      | some cs => K (.agg cs)
      | none => False
    | none => False) else False

def convS (E : Eng A) (src dst : TypeId) (x : SV A) (_sh : List (SO A)) (K : SV A → Prop) : Prop :=
  match desc E.P src, desc E.P dst, asInt x with
  | .int _, .int k, some (_, n, l) => K (mkInt l k (wr k n))
  | _, _, _ => False

/-! ## One operation -/
def stepOp (E : Eng A) (o : Op) (ts : List (SV A)) (sh : List (SO A)) (K : SV A → List (SO A) → Prop) : Prop :=
  match o with
  | .move x => K (ev E ts x) sh
  | .assign x => K (ev E ts x) sh
  | .pick c a b => match evr E ts sh c with
    | .bl true => K (evr E ts sh a) sh
    | .bl false => K (evr E ts sh b) sh
    | .sb _ v => match asBool (evr E ts sh a), asBool (evr E ts sh b) with
      | some x, some y => K (.sb 0 (if v then x else y)) sh
      | _, _ => False
    | _ => False
  | .alloc t => match tyZero E.P t with
    | some cs => K (.ptr (cnt sh) 0) (snoc sh (.cells t cs))
    | none => False
  | .box t x => match toSL sh (evr E ts sh x) with
    | some cs => K (.ptr (cnt sh) 0) (snoc sh (.cells t cs))
    | none => False
  | .build t ps => buildS E t (ps.toList.map fun p => (p.1, evr E ts sh p.2)) sh fun v => K v sh
  | .buildSlice t n ps => buildSliceS E t n (ps.toList.map fun p => (p.1, evr E ts sh p.2)) sh K
  | .load t a => loadS E t (evr E ts sh a) sh fun v => K v sh
  | .store t a v => storeS E t (evr E ts sh a) (evr E ts sh v) sh fun sh' => K .undef sh'
  | .nilCheck x => match evr E ts sh x with
    | .ptr i o => if alive sh i then K (.ptr i o) sh else False
    | .aptr i o n j => if alive sh i then K (.aptr i o n j) sh else False
    | .rptr cs o => K (.rptr cs o) sh
    | .vptr i j s o => if alive sh i then K (.vptr i j s o) sh else False
    | .fn (.func f) a b => K (.fn (.func f) a b) sh
    | .iface t v => K (.iface t v) sh
    | _ => False
  | .binOp op t x y _ => binS E op t (isConst x || isConst y) sh (evr E ts sh x) (evr E ts sh y) fun v => K v sh
  | .unOp op _ x => unS op (evr E ts sh x) fun v => K v sh
  | .convert s d x => convS E s d (evr E ts sh x) sh fun v => K v sh
  | .makeInterface t x => match desc E.P t with
    | .int _ => K (.iface t (evr E ts sh x)) sh
    | _ => False
  | .makeFunc f a b => K (.fn f (mkL (a.toList.map (evr E ts sh))) (mkL (b.toList.map (evr E ts sh)))) sh
  | .slice t x lo hi mx => sliceS E (evr E ts sh) t x lo hi mx sh K
  | .fieldAddr s x f => fieldS E s (evr E ts sh x) sh f fun v => K v sh
  | .field s x f => fieldVS E s (evr E ts sh x) f fun v => K v sh
  | .indexAddr t x i => indexS E t (evr E ts sh x) (evr E ts sh i) sh fun v => K v sh
  | .extract x i => match evr E ts sh x with
    | .tup vs => match vs.one i with
      | some v => K v sh
      | none => False
    | _ => False
  | .call c => match c.callee with
    | .value f => match evr E ts sh f with
      | .fn (.func g) a b => match unL a, unL b with
        | some xs, some ys => E.TT g (xs ++ c.args.toList.map (evr E ts sh) ++ ys) sh K
        | _, _ => False
      | _ => False
    | .builtin b => builtinS E b c.argTypes.toList (c.args.toList.map (evr E ts sh)) sh K
    | .invoke _ _ => False
  | _ => False

def setDst (ts : List (SV A)) (d : Option Tmp) (v : SV A) : List (SV A) := match d with
  | some t => setNth ts t v
  | none => ts

/-- A truth that is new gets a name of its own. -/
def named (nid : Nat) (v : SV A) : SV A := match v with
  | .sb _ b => .sb nid b
  | v => v
/-- A truth that is known from here on. -/
def know (id : Nat) (b : Bool) : List (SV A) → List (SV A)
  | [] => []
  | .sb i c :: l => (if i = id then SV.bl b else .sb i c) :: know id b l
  | s :: l => s :: know id b l

def guardOf (ops : List Oper) (ts : List (SV A)) (j : Nat) : SV A := match nth ops j with
  | some o => match o.dst with
    | some d => match nth ts d with
      | some s => s
      | none => .junk
    | none => .junk
  | none => .junk

def runOp (E : Eng A) (o : Oper) (ts : List (SV A)) (sh : List (SO A)) (nid : Nat) (K : List (SV A) → List (SO A) → Nat → Prop) : Prop :=
  match o.op with
  | .move x => K (setDst ts o.dst (ev E ts x)) sh nid
  | .assign x => K (setDst ts o.dst (ev E ts x)) sh nid
  | op => stepOp E op ts sh fun v sh' => K (setDst ts o.dst (named nid v)) sh' (nid + 1)

def guarded (E : Eng A) (ops : List Oper) (o : Oper) (ts : List (SV A)) (sh : List (SO A)) (nid : Nat) (K : List (SV A) → List (SO A) → Nat → Prop) : Prop :=
  match o.guard with
  | none => runOp E o ts sh nid K
  | some (j, want) => match guardOf ops ts j with
    | .undef => K (setDst ts o.dst .undef) sh nid
    | .bl b => if b = want then runOp E o ts sh nid K else K (setDst ts o.dst .undef) sh nid
    | .sb id b => (b = true → if want then runOp E o (know id true ts) sh nid K else K (setDst (know id true ts) o.dst .undef) sh nid) ∧
        (b = false → if want then K (setDst (know id false ts) o.dst .undef) sh nid else runOp E o (know id false ts) sh nid K)
    | _ => False

def opsS (E : Eng A) (ops : List Oper) : List Oper → List (SV A) → List (SO A) → Nat → (List (SV A) → List (SO A) → Nat → Prop) → Prop
  | [], ts, sh, nid, K => K ts sh nid
  | o :: rest, ts, sh, nid, K => guarded E ops o ts sh nid fun ts' sh' nid' => opsS E ops rest ts' sh' nid' K

/-! ## A region whose order is open -/
def inL (x : Nat) : List Nat → Bool
  | [] => false
  | y :: l => if x = y then true else inL x l
/-- May this one come up now? -/
def isReady (done : List Nat) (o : Oper) : List Edge → Bool
  | [] => true
  | e :: l => if Region.binds .any e then (if inL e.on done then isReady done o l else false) else isReady done o l
def readyFrom (done : List Nat) : Nat → List Oper → List Nat
  | _, [] => []
  | i, o :: l => if inL i done then readyFrom done (i + 1) l else (if isReady done o o.after.toList then i :: readyFrom done (i + 1) l else readyFrom done (i + 1) l)
/-- An operation that hangs on nothing but slots. -/
def regOnly : Op → Bool
  | .move _ => true
  | .assign _ => true
  | .pick _ _ _ => true
  | .binOp _ _ _ _ _ => true
  | .unOp _ _ _ => true
  | .convert _ _ _ => true
  | .makeInterface _ _ => true
  | .makeFunc _ _ _ => true
  | .fieldAddr _ _ _ => true
  | .field _ _ _ => true
  | .extract _ _ => true
  | .nilCheck _ => true
  | .indexAddr _ _ _ => true
  | .call c => match c.callee with
    | .builtin .len => true
    | _ => false
  | _ => false
def isLoad : Op → Bool
  | .load _ _ => true
  | _ => false
/-- Does it leave alone what was there? -/
def quietOp (E : Eng A) : Op → Bool
  | .store _ _ _ => false
  | .call c => match c.callee with
    | .value (.func f) => E.qf f
    | .builtin .len => true
    | .builtin .min => true
    | .builtin .max => true
    | _ => false
  | _ => true
/-- Does j wait for i, by however many steps? -/
def anyE (i : Nat) (rec : Nat → Bool) : List Edge → Bool
  | [] => false
  | e :: l => if Region.binds .any e then (if e.on = i then true else (if rec e.on then true else anyE i rec l)) else anyE i rec l
def waits (ops : List Oper) (i : Nat) : Nat → Nat → Bool
  | 0, _ => false
  | f + 1, j => match nth ops j with
    | some o => anyE i (waits ops i f) o.after.toList
    | none => false
/-- Every operation from the k-th on that is to come, and that may write, waits for i. -/
def allWait (E : Eng A) (ops : List Oper) (done : List Nat) (i : Nat) : Nat → List Oper → Bool
  | _, [] => true
  | k, o :: l => if inL k done then allWait E ops done i (k + 1) l else (if k = i then allWait E ops done i (k + 1) l else (if quietOp E o.op then allWait E ops done i (k + 1) l else (if waits ops i (cnt ops) k then allWait E ops done i (k + 1) l else false)))
def directly (i : Nat) : List Edge → Bool
  | [] => false
  | e :: l => if Region.binds .any e then (if e.on = i then true else directly i l) else directly i l
/-- Every operation that is to come waits for i at once, or has no slot in common with it. -/
def allApart (ops : List Oper) (done : List Nat) (i : Nat) (oi : Oper) : Nat → List Oper → Bool
  | _, [] => true
  | k, o :: l => if inL k done then allApart ops done i oi (k + 1) l else (if k = i then allApart ops done i oi (k + 1) l else (if directly i o.after.toList then allApart ops done i oi (k + 1) l else (if oi.apart ops.toArray o then allApart ops done i oi (k + 1) l else false)))
def mayFirst (E : Eng A) (ops : List Oper) (done : List Nat) (i : Nat) (o : Oper) : Bool :=
  if regOnly o.op then allApart ops done i o 0 ops else (if isLoad o.op then (if allWait E ops done i 0 ops then allApart ops done i o 0 ops else false) else false)
def firstEarly (E : Eng A) (ops : List Oper) (done : List Nat) : List Nat → Option Nat
  | [] => none
  | i :: l => match nth ops i with
    | some o => if mayFirst E ops done i o then some i else firstEarly E ops done l
    | none => firstEarly E ops done l
def allOf (f : Nat → Prop) : List Nat → Prop
  | [] => True
  | [i] => f i
  | i :: l => f i ∧ allOf f l
def drawS (E : Eng A) (ops : List Oper) : Nat → List Nat → List (SV A) → List (SO A) → Nat → (List (SV A) → List (SO A) → Nat → Prop) → Prop
  | 0, done, ts, sh, nid, K => match readyFrom done 0 ops with
    | [] => K ts sh nid
    | _ => False
  | f + 1, done, ts, sh, nid, K =>
    match readyFrom done 0 ops with
    | [] => False
    | rs => match firstEarly E ops done rs with
      | some i => match nth ops i with
        | some o => guarded E ops o ts sh nid fun ts' sh' nid' => drawS E ops f (i :: done) ts' sh' nid' K
        | none => False
      | none => allOf (fun i => match nth ops i with
        | some o => guarded E ops o ts sh nid fun ts' sh' nid' => drawS E ops f (i :: done) ts' sh' nid' K
        | none => False) rs

def noSel : List Oper → Bool
  | [] => true
  | o :: l => match o.op with
    | .select _ _ => false
    | _ => noSel l

/-! ## Code -/
def firstReg : Code → Nat
  | .region id _ _ => id + 1
  | .seq a b => match firstReg a with
    | 0 => firstReg b
    | n => n
  | .cond _ a b => match firstReg a with
    | 0 => firstReg b
    | n => n
  | .block _ c => firstReg c
  | .loop c => firstReg c
  | _ => 0
def dsts : List Oper → List Nat
  | [] => []
  | o :: l => match o.dst with
    | some d => d :: dsts l
    | none => dsts l
def written : Code → List Nat
  | .region _ ops _ => dsts ops.toList
  | .seq a b => written a ++ written b
  | .cond _ a b => written a ++ written b
  | .block _ c => written c
  | .loop c => written c
  | _ => []
def junkAll (ts : List (SV A)) : List Nat → List (SV A)
  | [] => ts
  | t :: l => junkAll (setNth ts t .junk) l
def laySlots (nid : Nat) (ts : List (SV A)) : List (Nat × SV A) → List (SV A)
  | [] => ts
  | (t, v) :: l => laySlots (nid + 1) (setNth ts t (named nid v)) l
def layHeap (sh : List (SO A)) : List (Nat × SO A) → List (SO A)
  | [] => sh
  | (i, o) :: l => layHeap (setNth sh i o) l
mutual
/-- Does it speak of the first n entries alone? -/
def belowV (n : Nat) : SV A → Bool
  | .ptr i _ => if i < n then true else false
  | .aptr i _ _ _ => if i < n then true else false
  | .asl i _ _ => if i < n then true else false
  | .vec i => if i < n then true else false
  | .vptr i _ _ _ => if i < n then true else false
  | .rptr cs _ => belowL n cs
  | .iface _ v => belowV n v
  | .fn _ a b => if belowL n a then belowL n b else false
  | .agg cs => belowL n cs
  | .tup cs => belowL n cs
  | _ => true
def belowL (n : Nat) : SL A → Bool
  | .nil => true
  | .cell v r => if belowV n v then belowL n r else false
  | .run _ _ _ r => belowL n r
end
def belowO (n : Nat) : SO A → Bool
  | .cells _ cs => belowL n cs
  | .fr v => belowV n v
  | _ => true
def belowOs (n : Nat) : List (SO A) → Bool
  | [] => true
  | o :: l => if belowO n o then belowOs n l else false

/-! ## Where code arrives: at a loop's head, at a function's end -/
mutual
/-- Entries behind the first n, by what stands for them. -/
def sub (n : Nat) (σ : List (SV A)) : SV A → SV A
  | .vec i => if i < n then .vec i else (match nth σ (i - n) with
    | some s => s
    | none => .undef)
  | .ptr i o => if i < n then .ptr i o else (match nth σ (i - n) with
    | some (.ptr j 0) => .ptr j o
    | _ => .undef)
  | .rptr cs o => .rptr (subL n σ cs) o
  | .iface t v => .iface t (sub n σ v)
  | .fn g a b => .fn g (subL n σ a) (subL n σ b)
  | .agg cs => .agg (subL n σ cs)
  | .tup cs => .tup (subL n σ cs)
  | s => s
def subL (n : Nat) (σ : List (SV A)) : SL A → SL A
  | .nil => .nil
  | .cell v r => .cell (sub n σ v) (subL n σ r)
  | .run k m xs r => .run k m xs (subL n σ r)
end
def subO (n : Nat) (σ : List (SV A)) : SO A → SO A
  | .cells e cs => .cells e (subL n σ cs)
  | .fr s => .fr (sub n σ s)
  | o => o
def vecSrc (σ : List (SV A)) (k : Nat) : Bool := match nth σ k with
  | some (.vec _) => true
  | some (.val (.slice none 0 0)) => true
  | _ => false
def ptrSrc (σ : List (SV A)) (k : Nat) : Bool := match nth σ k with
  | some (.ptr _ 0) => true
  | _ => false
mutual
/-- Does it speak of the first n entries, and of those behind them that stand for something, alone? -/
def okV (n : Nat) (σ : List (SV A)) : SV A → Bool
  | .ptr i _ => if i < n then true else ptrSrc σ (i - n)
  | .aptr i _ _ _ => if i < n then true else false
  | .asl i _ _ => if i < n then true else false
  | .vec i => if i < n then true else vecSrc σ (i - n)
  | .vptr i _ _ _ => if i < n then true else false
  | .rptr cs _ => okL n σ cs
  | .iface _ v => okV n σ v
  | .fn _ a b => if okL n σ a then okL n σ b else false
  | .agg cs => okL n σ cs
  | .tup cs => okL n σ cs
  | _ => true
def okL (n : Nat) (σ : List (SV A)) : SL A → Bool
  | .nil => true
  | .cell v r => if okV n σ v then okL n σ r else false
  | .run _ _ _ r => okL n σ r
end
def okO (n : Nat) (σ : List (SV A)) : SO A → Bool
  | .cells _ cs => okL n σ cs
  | .fr v => okV n σ v
  | _ => true
def okOs (n : Nat) (σ : List (SV A)) : List (SO A) → Bool
  | [] => true
  | o :: l => if okO n σ o then okOs n σ l else false
def okSlots (n : Nat) (σ : List (SV A)) : List (Nat × SV A) → Bool
  | [] => true
  | (_, v) :: l => if okV n σ v then okSlots n σ l else false

def joinL {α : Type _} : List α → List α → List α
  | [], m => m
  | x :: l, m => x :: joinL l m
def find1 (n : Nat) : SV A → SV A → List (Nat × SV A)
  | .vec i, h => if i < n then [] else [(i - n, h)]
  | .ptr i _, .ptr j _ => if i < n then [] else [(i - n, .ptr j 0)]
  | _, _ => []
def findL (n : Nat) : SL A → SL A → List (Nat × SV A)
  | .cell a r, .cell b s => joinL (find1 n a b) (findL n r s)
  | .run _ _ _ r, .run _ _ _ s => findL n r s
  | _, _ => []
def findV (n : Nat) : SV A → SV A → List (Nat × SV A)
  | .agg a, .agg b => findL n a b
  | .tup a, .tup b => findL n a b
  | .fn _ a b, .fn _ c d => joinL (findL n a c) (findL n b d)
  | a, b => find1 n a b
def rslV (sh : List (SO A)) : SV A → SV A
  | .agg cs => .agg (rslL sh cs)
  | .fn f a b => .fn f (rslL sh a) (rslL sh b)
  | s => rsl sh s
def rslO (sh : List (SO A)) : SO A → SO A
  | .cells e cs => .cells e (rslL sh cs)
  | o => o
def findSlots (n : Nat) (ts : List (SV A)) (sh : List (SO A)) : List (Nat × SV A) → List (Nat × SV A)
  | [] => []
  | (t, v) :: l => match nth ts t with
    | some s => joinL (findV n v (rslV sh s)) (findSlots n ts sh l)
    | none => findSlots n ts sh l
def findOs (n : Nat) (sh : List (SO A)) : List (SO A) → List (SO A) → List (Nat × SV A)
  | .cells _ a :: r, .cells _ b :: s => joinL (findL n a (rslL sh b)) (findOs n sh r s)
  | _ :: r, _ :: s => findOs n sh r s
  | _, _ => []
def getA (k : Nat) : List (Nat × SV A) → Option (SV A)
  | [] => none
  | (i, s) :: l => if i = k then some s else getA k l
/-- What the entries that are found speak of. -/
def findM (n : Nat) (sh : List (SO A)) (al : List (Nat × SV A)) : Nat → List (SO A) → List (Nat × SV A)
  | _, [] => []
  | k, .cells _ cs :: M => joinL (match getA k al with
    | some (.ptr j _) => match nth sh j with
      | some (.cells _ ds) => findL n cs (rslL sh ds)
      | _ => []
    | _ => []) (findM n sh al (k + 1) M)
  | k, _ :: M => findM n sh al (k + 1) M
def closeM (n : Nat) (sh M : List (SO A)) (al : List (Nat × SV A)) : List (Nat × SV A) := joinL al (findM n sh al 0 M)
def srcs (al : List (Nat × SV A)) : Nat → Nat → Option (List (SV A))
  | _, 0 => some []
  | k, m + 1 => match getA k al, srcs al (k + 1) m with
    | some s, some l => some (s :: l)
    | _, _ => none
def isDead (P : List (SO A)) (j : Nat) : Bool := match nth P j with
  | some .dead => true
  | some _ => false
  | none => true
def memN (j : Nat) : List Nat → Bool
  | [] => false
  | i :: l => if i = j then true else memN j l
def distinct (P : List (SO A)) : List (SV A) → List Nat → Bool
  | [], _ => true
  | .vec j :: l, seen => if isDead P j then (if memN j seen then false else distinct P l (j :: seen)) else false
  | .ptr j 0 :: l, seen => if isDead P j then (if memN j seen then false else distinct P l (j :: seen)) else false
  | .val (.slice none 0 0) :: l, seen => distinct P l seen
  | _, _ => false
def more1 (n : Nat) (σ : List (SV A)) (sh : List (SO A)) : SO A → SV A → Prop
  | .ivec e k xs, .vec j => match nth sh j with
    | some o => eqo (.ivec e k xs) o
    | none => False
  | .svec e xs, .vec j => match nth sh j with
    | some o => eqo (.svec e xs) o
    | none => False
  | .cells e cs, .ptr j _ => match nth sh j with
    | some o => eqo (.cells e (subL n σ cs)) (rslO sh o)
    | none => False
  | .ivec _ _ xs, .val (.slice none 0 0) => xs = []
  | .svec _ xs, .val (.slice none 0 0) => xs = []
  | _, _ => False
def moreIs (n : Nat) (σ : List (SV A)) (sh : List (SO A)) : List (SO A) → List (SV A) → Prop
  | [], [] => True
  | a :: M, s :: l => more1 n σ sh a s ∧ moreIs n σ sh M l
  | _, _ => False
def preIs (n : Nat) (σ : List (SV A)) (sh : List (SO A)) : List (SO A) → List (SO A) → Prop
  | [], _ => True
  | .dead :: r, _ :: s => preIs n σ sh r s
  | a :: r, b :: s => eqo (subO n σ a) (rslO sh b) ∧ preIs n σ sh r s
  | _, _ => False
def slotIs (n : Nat) (σ : List (SV A)) (ts : List (SV A)) (sh : List (SO A)) (t : Nat) (v : SV A) : Prop := match nth ts t with
  | some s => eqv (sub n σ v) (rslV sh s)
  | none => False
def slotsAre (n : Nat) (σ : List (SV A)) (ts : List (SV A)) (sh : List (SO A)) : List (Nat × SV A) → Prop
  | [] => True
  | [(t, v)] => slotIs n σ ts sh t v
  | (t, v) :: l => slotIs n σ ts sh t v ∧ slotsAre n σ ts sh l
/-- What is in these slots and this heap is what is wanted there: the first entries where they are, vectors behind them wherever they are. -/
def arrS (P M : List (SO A)) (slots : List (Nat × SV A)) (ts : List (SV A)) (sh : List (SO A)) : Prop :=
  match srcs (closeM (cnt P) sh M (closeM (cnt P) sh M (joinL (findSlots (cnt P) ts sh slots) (findOs (cnt P) sh P sh)))) 0 (cnt M) with
  | some σ => if okOs (cnt P) σ P then (if okOs (cnt P) σ M then (if okSlots (cnt P) σ slots then (if distinct P σ [] then
      slotsAre (cnt P) σ ts sh slots ∧ preIs (cnt P) σ sh P sh ∧ moreIs (cnt P) σ sh M σ else False) else False) else False) else False
  | none => False

def codeS (E : Eng A) (ann : Anns A) : Code → Post A → List (SV A) → List (SO A) → Nat → Prop
  | .skip, Q, ts, sh, nid => Q .normal ts sh nid
  | .region _ ops false, Q, ts, sh, nid => opsS E ops.toList ops.toList ts sh nid (Q .normal)
  | .region _ ops true, Q, ts, sh, nid => if noSel ops.toList then drawS E ops.toList (cnt ops.toList) [] ts sh nid (Q .normal) else False
  | .seq a b, Q, ts, sh, nid => codeS E ann a (fun e ts' sh' nid' => match e with
    | .normal => codeS E ann b Q ts' sh' nid'
    | e => Q e ts' sh' nid') ts sh nid
  | .cond c a b, Q, ts, sh, nid => match ev E ts c with
    | .bl true => codeS E ann a Q ts sh nid
    | .bl false => codeS E ann b Q ts sh nid
    | .sb id v => (v = true → codeS E ann a Q (know id true ts) sh nid) ∧ (v = false → codeS E ann b Q (know id false ts) sh nid)
    | _ => False
  | .block id c, Q, ts, sh, nid => codeS E ann c (fun e ts' sh' nid' => match e with
    | .exit i => if i = id then Q .normal ts' sh' nid' else Q (.exit i) ts' sh' nid'
    | e => Q e ts' sh' nid') ts sh nid
  | .loop c, Q, ts, sh, nid => match ann (firstReg c) ts sh with
    | none => False
    | some L => (∃ x, L.inv x ∧ arrS (layHeap sh (L.heap x)) (L.more x) (L.slots x) ts sh) ∧
      ∀ x, L.inv x → codeS E ann c (fun e ts' sh' nid' => match e with
        | .normal => ∃ y, L.inv y ∧ L.meas y < L.meas x ∧ arrS (layHeap sh (L.heap y)) (L.more y) (L.slots y) ts' sh'
        | e => Q e ts' sh' nid') (laySlots nid (junkAll ts (written c)) (L.slots x)) (joinL (layHeap sh (L.heap x)) (L.more x)) (nid + cnt (L.slots x))
  | .exit id, Q, ts, sh, nid => Q (.exit id) ts sh nid
  | .ret, Q, ts, sh, nid => Q .ret ts sh nid
  | _, _, _, _, _ => False

/-! ## Functions -/
/-- What a function hands back. -/
def resS (E : Eng A) (ts : List (SV A)) (sh : List (SO A)) : List ResultVar → (List (SV A) → Prop) → Prop
  | [], K => K []
  | .tmp t :: l, K => match nth ts t with
    | some s => resS E ts sh l fun r => K (s :: r)
    | none => False
  | .cell p ty :: l, K => loadS E ty (evr E ts sh (.tmp p)) sh fun s => resS E ts sh l fun r => K (s :: r)
def resV : List (SV A) → SV A
  | [s] => s
  | l => .tup (mkL l)

/-- A contract over a heap of its own. -/
structure LS (A : Nat → Type) where
  X : Type
  pre : X → Prop
  args : X → List (SV A)
  hin : X → List (SO A)
  res : X → List (SV A)
  hout : X → List (SO A)

def nameAll (n : Nat) : List (SV A) → List (SV A)
  | [] => []
  | v :: l => named n v :: nameAll (n + 1) l
def padJ : Nat → List (SV A)
  | 0 => []
  | n + 1 => .junk :: padJ n

/-- Vectors are let go for what is to be read alone. -/
def end1 (sh : List (SO A)) (want have_ : SV A) : Option (SV A × List (SO A)) := match want with
  | .vec _ => some (have_, sh)
  | .ptr _ _ => some (have_, sh)
  | _ => letGoV sh have_
def endS (sh : List (SO A)) : List (SV A) → List (SV A) → Option (List (SV A) × List (SO A))
  | [], [] => some ([], sh)
  | w :: r, h :: s => match end1 sh w h with
    | some (v, sh1) => match endS sh1 r s with
      | some (l, sh2) => some (v :: l, sh2)
      | none => none
    | none => none
  | _, _ => none
def slotsFrom (n : Nat) : List (SV A) → List (Nat × SV A)
  | [] => []
  | v :: l => (n, v) :: slotsFrom (n + 1) l
def takeN {α : Type _} : Nat → List α → List α
  | 0, _ => []
  | _ + 1, [] => []
  | n + 1, x :: l => x :: takeN n l
def dropN {α : Type _} : Nat → List α → List α
  | 0, l => l
  | _ + 1, [] => []
  | n + 1, _ :: l => dropN n l

def fnS (E : Eng A) (f : Func) (body : Code) (L : LS A) (ann : L.X → Anns A) : Prop :=
  ∀ x, L.pre x → codeS E (ann x) body (fun e ts sh _ => match e with
    | .exit _ => False
    | _ => resS E ts sh f.results.toList fun l => match endS sh (L.res x) l with
      | some (l', sh') => arrS (takeN (cnt (L.hin x)) (L.hout x)) (dropN (cnt (L.hin x)) (L.hout x)) (slotsFrom 0 (L.res x)) l' sh'
      | none => False) (nameAll 0 (L.args x) ++ padJ (f.ntmps - (cnt (L.args x)))) (L.hin x) (cnt (L.args x))
end Go.Eng
