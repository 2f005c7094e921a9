/- Part 1 of the texts behind the last one: what they say stands ahead of each. Conditions: none. -/
import Derived.WalkKit
import Derived.Laws.BytesArg
import Derived.Orders
import Derived.Laws.AppendOwn
import Derived.Laws.Rows
import Derived.Maps.AppendAt
import Derived.Laws.StructEq
import Derived.ChangeKeysEq
/-! The engine's words: symbolic values, what they stand for, and a function that turns code into what is to be proved of it.
   Conditions: none; this text holds definitions alone. -/
namespace Go.Eng
open Go
/-- What an entry of the symbolic heap is in memory. -/
inductive Wit where
 | dead
 | blk (b:Nat)
 | sl (v:Value)
 | ro (v:Value)
 | mb (b:Nat)
/-- What an entry may become. -/
def Wit.le (x y:Wit):Prop:=y=x∨y = .dead∨∃ v,x = .sl v∧y = .ro v
theorem Wit.le.refl (x:Wit):x.le x := .inl rfl
theorem Wit.le.trans {x y z:Wit} (h:x.le y) (k:y.le z):x.le z:=by
 rcases h with rfl | rfl | ⟨v,rfl,rfl⟩
 ·exact k
 ·rcases k with rfl | rfl | ⟨v,h,_⟩
  ·exact .inr (.inl rfl)
  ·exact .inr (.inl rfl)
  ·cases h
 ·rcases k with rfl | rfl | ⟨v,h,_⟩
  ·exact .inr (.inr ⟨v,rfl,rfl⟩)
  ·exact .inr (.inl rfl)
  ·cases h
variable {A:Nat→Type}
mutual
/-- A symbolic value. 'A' names, for the number of a type of elements, the data that such an element is read as. -/
inductive SV (A:Nat→Type):Type
 | junk
 | undef
 | val (v:Value)
 | int (k:IntKind) (n:Int)
 | lit (k:IntKind) (n:Int)
 | bl (b:Bool)
 | sb (id:Nat) (b:Bool)
 | ptr (i off:Nat)
 | aptr (i off n j:Nat)
 | asl (i off n:Nat)
 | rptr (cs:SL A) (off:Nat)
 | rints (k:IntKind) (xs:List Int)
 | rseq (t:Nat) (xs:List (A t))
 | rful (t:Nat) (xs:List (A t))
 | vec (i:Nat)
 | vptr (i j size off:Nat)
 | iface (t:TypeId) (v:SV A)
 | err (t:TypeId) (n:Int)
 | fn (f:Fn) (first captured:SL A)
 | agg (cs:SL A)
 | tup (vs:SL A)
/-- Cells, one behind the other. -/
inductive SL (A:Nat→Type):Type
 | nil
 | cell (v:SV A) (r:SL A)
 | run (k:IntKind) (n:Nat) (xs:List Int) (r:SL A)
end
/-- An object of the symbolic heap. -/
inductive SO (A:Nat→Type):Type
 | dead
 | cells (elem:TypeId) (cs:SL A)
 | ivec (elem:TypeId) (k:IntKind) (xs:List Int)
 | svec (elem:TypeId) (xs:List (A elem))
 | fr (v:SV A)
 | smap (kt vt:Nat) (es:List (A kt×A vt)) (st:List Int)
 | amap (kt vt:Nat) (es:List (A kt×A vt))
 | rmap (kt vt:Nat) (es:List (A kt×A vt)) (st:List Int) (clock:Nat)
 | miter (m:SV A) (since:Nat) (seen:List Int) (last:Nat)
/-- How the data of an element lie in cells, and how many these are. -/
structure Enc (A:Nat→Type) where
 enc:(t:Nat)→A t→SL A
 size:Nat→Nat
 agg:Nat→Bool
def SL.len:SL A→Nat
 | .nil=>0
 | .cell _ r=>r.len+1
 | .run _ n _ r=>n+r.len
def SL.app:SL A→SL A→SL A
 | .nil,d=>d
 | .cell v r,d => .cell v (r.app d)
 | .run k n xs r,d => .run k n xs (r.app d)
/-- The first n cells. -/
def SL.take:SL A→Nat→Option (SL A)
 | _,0=>some .nil
 | .nil,_+1=>none
 | .cell v r,n+1=>match r.take n with
  | some x=>some (.cell v x)
  | none=>none
 | .run k m xs r,n+1=>if m≤n+1 then (match r.take (n+1-m) with
  | some x=>some (.run k m xs x)
  | none=>none) else some (.run k (n+1) (xs.take (n+1)) .nil)
/-- All but the first n cells. -/
def SL.drop:SL A→Nat→Option (SL A)
 | cs,0=>some cs
 | .nil,_+1=>none
 | .cell _ r,n+1=>r.drop n
 | .run k m xs r,n+1=>if m≤n+1 then r.drop (n+1-m) else some (.run k (m-(n+1)) (xs.drop (n+1)) r)
/-- The cell at a place. -/
def SL.one:SL A→Nat→Option (SV A)
 | .nil,_=>none
 | .cell v _,0=>some v
 | .cell _ r,o+1=>r.one o
 | .run k m xs r,o=>if o<m then some (.int k (xs.getD o 0)) else r.one (o-m)
/-- n cells from a place on. -/
def SL.sub (cs:SL A) (o n:Nat):Option (SL A):=match cs.drop o with
 | some d=>d.take n
 | none=>none
/-- Cells laid over others. -/
def SL.put (cs:SL A) (o:Nat) (d:SL A):Option (SL A):=match cs.take o with
 | some a=>match cs.drop (o+d.len) with
  | some b=>some (a.app (d.app b))
  | none=>none
 | none=>none
/-- One integer of the run that begins at a place. -/
def SL.runAt:SL A→Nat→Option (IntKind×Nat×List Int)
 | .nil,_=>none
 | .cell _ _,0=>none
 | .cell _ r,o+1=>r.runAt o
 | .run k m xs r,o=>if o<m then (if o=0 then some (k,m,xs) else none) else r.runAt (o-m)
def SL.runSet:SL A→Nat→List Int→SL A
 | .nil,_,_ => .nil
 | .cell v r,0,_ => .cell v r
 | .cell v r,o+1,ys => .cell v (r.runSet o ys)
 | .run k m xs r,o,ys=>if o<m then .run k m ys r else .run k m xs (r.runSet (o-m) ys)
/-- n cells from a place on, inside one run; and others in their stead. -/
def SL.part:SL A→Nat→Nat→Option (IntKind×List Int)
 | .nil,_,_=>none
 | .cell _ _,0,_=>none
 | .cell _ r,o+1,n=>r.part o n
 | .run k m xs r,o,n=>if o<m then (if o=0 then (if n=m then some (k,xs) else (if n≤m then some (k,xs.take n) else none)) else (if o+n≤m then some (k,(xs.drop o).take n) else none)) else r.part (o-m) n
def SL.partSet:SL A→Nat→Nat→List Int→SL A
 | .nil,_,_,_ => .nil
 | .cell v r,0,_,_ => .cell v r
 | .cell v r,o+1,n,ys => .cell v (r.partSet o n ys)
 | .run k m xs r,o,n,ys=>if o<m then (if o=0 then (if n=m then .run k m ys r else .run k m (ys++xs.drop n) r) else .run k m (xs.take o++(ys++xs.drop (o+n))) r) else .run k m xs (r.partSet (o-m) n ys)
def nth {α:Type _}:List α→Nat→Option α
 | [],_=>none
 | x::_,0=>some x
 | _::l,n+1=>nth l n
def setNth {α:Type _}:List α→Nat→α→List α
 | [],_,_=>[]
 | _::l,0,y=>y::l
 | x::l,n+1,y=>x::setNth l n y
def snoc {α:Type _}:List α→α→List α
 | [],y=>[y]
 | x::l,y=>x::snoc l y
def cnt {α:Type _}:List α→Nat
 | []=>0
 | _::l=>cnt l+1
section
variable (O:Nat→Prop) (env:List Wit) (w:World)
def Wit.owns:Wit→Nat→Prop
 | .dead,_=>False
 | .blk b,x=>x=b
 | .sl v,x=>v.ownBlock=some x
 | .ro _,_=>False
 | .mb b,x=>x=b
def owned (b:Nat):Prop:=∃ i:Nat,∃ x:Wit,env[i]?=some x∧x.owns b
/-- These values are read at an address, and nobody here writes there. -/
def ROat (A:Option Addr) (vs:List Value):Prop:=
 vs=[]∨∃ b o,A=some ⟨b,o,none⟩∧¬O b∧¬owned env b∧∀ (j:Nat) u,vs[j]?=some u→w.cell? ⟨b,o+j,none⟩=some u
/-- The block of an entry, if it lives. -/
def blkAt (i:Nat) (P:Nat→Prop):Prop:=match env[i]? with
 | some (.blk b)=>P b
 | some .dead=>True
 | _=>False
def slAt (i:Nat) (P:Value→Prop):Prop:=match env[i]? with
 | some (.sl v)=>P v
 | some (.ro v)=>P v
 | some .dead=>True
 | _=>False
/-- A pointer into an entry's block; a map. -/
def refAt (i off:Nat) (v:Value):Prop:=match env[i]? with
 | some (.blk b)=>v = .pointer (some ⟨b,off,none⟩)
 | some (.mb b)=>v = .map (some b)
 | some .dead=>True
 | _=>False
variable (C:Enc A)
mutual
inductive Rep:SV A→Value→Prop
 | junk {v:Value}:Rep .junk v
 | undef:Rep .undef Go.undef
 | val {v:Value}:Rep (.val v) v
 | int {k:IntKind} {n:Int}:Rep (.int k n) (.int k n)
 | lit {k:IntKind} {n:Int}:Rep (.lit k n) (.int k n)
 | bl {b:Bool}:Rep (.bl b) (.bool b)
 | sb {i:Nat} {b:Bool}:Rep (.sb i b) (.bool b)
 | ptr {i off:Nat} {v:Value} (h:refAt env i off v):Rep (.ptr i off) v
 | aptr {i off n j:Nat} {v:Value} (h:blkAt env i fun b=>v = .pointer (some ⟨b,off+j,none⟩)∧j<n):Rep (.aptr i off n j) v
 | asl {i off n:Nat} {v:Value} (h:blkAt env i fun b=>∃ c,v = .slice (some ⟨b,off,none⟩) n c∧n≤c∧c≤maxLen):Rep (.asl i off n) v
 | rptr {cs:SL A} {off:Nat} (b o:Nat) (vs:List Value) (hO:¬O b) (he:¬owned env b) (hb:b<w.heap.size)
   (hc:∀ (j:Nat) u,vs[j]?=some u→w.cell? ⟨b,o+j,none⟩=some u) (h:RepL cs vs):Rep (.rptr cs off) (.pointer (some ⟨b,o+off,none⟩))
 | rints {k:IntKind} {xs:List Int} (a:Option Addr) (c:Nat) (h1:xs.length≤c) (h2:c≤maxLen) (h:ROat O env w a (xs.map (Value.int k))):Rep (.rints k xs) (.slice a xs.length c)
 | rseq {t:Nat} {xs:List (A t)} (a:Option Addr) (c:Nat) (vs:List Value) (h1:xs.length≤c) (h2:c≤maxLen) (h3:vs.length=xs.length*C.size t) (h:ROat O env w a vs)
   (hx:∀ (j:Nat) (x:A t),xs[j]?=some x→RepL (C.enc t x) ((vs.drop (j*C.size t)).take (C.size t))):Rep (.rseq t xs) (.slice a xs.length c)
 | rful {t:Nat} {xs:List (A t)} (a:Option Addr) (vs:List Value) (h2:xs.length≤maxLen) (h3:vs.length=xs.length*C.size t) (h:ROat O env w a vs)
   (hx:∀ (j:Nat) (x:A t),xs[j]?=some x→RepL (C.enc t x) ((vs.drop (j*C.size t)).take (C.size t))):Rep (.rful t xs) (.slice a xs.length xs.length)
 | vec {i:Nat} {v:Value} (h:slAt env i fun u=>v=u):Rep (.vec i) v
 | vptr {i j size off:Nat} {v:Value} (h:slAt env i fun u=>∃ b n c,u = .slice (some ⟨b,0,none⟩) n c∧v = .pointer (some ⟨b,j*size+off,none⟩)):Rep (.vptr i j size off) v
 | iface {t:TypeId} {s:SV A} {u:Value} (h:Rep s u):Rep (.iface t s) (.iface t u)
 | err {t:TypeId} {n:Int} {v:Value} (h:n=0∧v = .nilIface∨n≠0∧v = .iface t (.int .i64 n)):Rep (.err t n) v
 | fn {f:Fn} {a b:SL A} (us vs:List Value) (ha:RepL a us) (hb:RepL b vs):Rep (.fn f a b) (.func f us.toArray vs.toArray)
 | agg {cs:SL A} (vs:List Value) (h:RepL cs vs):Rep (.agg cs) (.agg vs.toArray)
 | tup {cs:SL A} (vs:List Value) (h:RepL cs vs):Rep (.tup cs) (.tuple vs.toArray)
inductive RepL:SL A→List Value→Prop
 | nil:RepL .nil []
 | cell {s:SV A} {r:SL A} {u:Value} {us:List Value} (h:Rep s u) (hr:RepL r us):RepL (.cell s r) (u::us)
 | run {k:IntKind} {n:Nat} {xs:List Int} {r:SL A} {us:List Value} (hn:xs.length=n) (hr:RepL r us):RepL (.run k n xs r) (xs.map (Value.int k)++us)
end
end
/-- From a world to a later one: what nobody here owns is as it was. -/
structure Step (env:List Wit) (w:World) (env':List Wit) (w':World):Prop where
 os:w'.os=w.os
 tape:w'.tape=w.tape
 output:w'.output=w.output
 size:w.heap.size≤w'.heap.size
 elen:env.length≤env'.length
 keep:∀ (i:Nat) x,env[i]?=some x→∃ y,env'[i]?=some y∧x.le y
 fresh:∀ b,owned env' b→owned env b∨w.heap.size≤b
 cells:∀ b,b<w.heap.size→¬owned env b→w'.heap[b]?=w.heap[b]?
theorem Step.refl (env:List Wit) (w:World):Step env w env w:=
 ⟨rfl,rfl,rfl,Nat.le_refl _,Nat.le_refl _,fun _ x h=>⟨x,h,.refl x⟩,fun _ h => .inl h,fun _ _ _=>rfl⟩
theorem Step.trans {e e1 e2:List Wit} {w w1 w2:World} (h:Step e w e1 w1) (k:Step e1 w1 e2 w2):Step e w e2 w2 where
 os:=k.os.trans h.os
 tape:=k.tape.trans h.tape
 output:=k.output.trans h.output
 size:=Nat.le_trans h.size k.size
 elen:=Nat.le_trans h.elen k.elen
 keep:=fun i x hx=>by
  obtain ⟨y,h1,h2⟩:=h.keep i x hx
  obtain ⟨z,h3,h4⟩:=k.keep i y h1
  exact ⟨z,h3,h2.trans h4⟩
 fresh:=fun b hb=>by
  rcases k.fresh b hb with h1 | h1
  ·exact h.fresh b h1
  ·exact .inr (Nat.le_trans h.size h1)
 cells:=fun b hb hn=>by
  have hn1:¬owned e1 b:=fun h1=>(h.fresh b h1).elim hn (fun h2=>by omega)
  exact (k.cells b (Nat.lt_of_lt_of_le hb h.size) hn1).trans (h.cells b hb hn)
section
variable {O:Nat→Prop} {env env':List Wit} {w w':World} {C:Enc A}
theorem cell_lt {w:World} {b o:Nat} {u:Value} (h:w.cell? ⟨b,o,none⟩=some u):b<w.heap.size:=
 World.block_lt_of_cell? w ⟨b,o,none⟩ h
theorem ROat.step (hs:Step env w env' w') {a:Option Addr} {vs:List Value} (h:ROat O env w a vs):ROat O env' w' a vs:=by
 rcases h with h | ⟨b,o,ha,hO,he,hc⟩
 ·exact .inl h
 ·cases vs with
  | nil=>exact .inl rfl
  | cons u us=>
   have hb:b<w.heap.size:=cell_lt (hc 0 u rfl)
   refine .inr ⟨b,o,ha,hO,fun h1=>(hs.fresh b h1).elim he (fun h2=>by omega),fun j x hx=>?_⟩
   have h1:=hc j x hx
   have h2:=hs.cells b hb he
   simp only [World.cell?,h2] at h1 ⊢
   exact h1
theorem blkAt.le {i:Nat} {P:Nat→Prop} {env env':List Wit} (hk:∀ x,env[i]?=some x→∃ y,env'[i]?=some y∧x.le y) (h:blkAt env i P):blkAt env' i P:=by
 unfold blkAt at *
 cases hx:env[i]? with
 | none=>simp [hx] at h
 | some x=>
  rw [hx] at h
  obtain ⟨y,h1,h2⟩:=hk x hx
  rw [h1]
  rcases h2 with rfl | rfl | ⟨v,rfl,rfl⟩
  ·exact h
  ·trivial
  ·exact h.elim
theorem refAt.le {i off:Nat} {v:Value} {env env':List Wit} (hk:∀ x,env[i]?=some x→∃ y,env'[i]?=some y∧x.le y) (h:refAt env i off v):refAt env' i off v:=by
 unfold refAt at *
 cases hx:env[i]? with
 | none=>simp [hx] at h
 | some x=>
  rw [hx] at h
  obtain ⟨y,h1,h2⟩:=hk x hx
  rw [h1]
  rcases h2 with rfl | rfl | ⟨v,rfl,rfl⟩
  ·exact h
  ·trivial
  ·exact h.elim
theorem slAt.le {i:Nat} {P:Value→Prop} {env env':List Wit} (hk:∀ x,env[i]?=some x→∃ y,env'[i]?=some y∧x.le y) (h:slAt env i P):slAt env' i P:=by
 unfold slAt at *
 cases hx:env[i]? with
 | none=>simp [hx] at h
 | some x=>
  rw [hx] at h
  obtain ⟨y,h1,h2⟩:=hk x hx
  rw [h1]
  rcases h2 with rfl | rfl | ⟨v,rfl,rfl⟩
  ·exact h
  ·trivial
  ·exact h
theorem blkAt.step (hs:Step env w env' w') {i:Nat} {P:Nat→Prop} (h:blkAt env i P):blkAt env' i P:=h.le (hs.keep i)
theorem refAt.step (hs:Step env w env' w') {i off:Nat} {v:Value} (h:refAt env i off v):refAt env' i off v:=h.le (hs.keep i)
theorem slAt.step (hs:Step env w env' w') {i:Nat} {P:Value→Prop} (h:slAt env i P):slAt env' i P:=h.le (hs.keep i)
mutual
theorem Rep.step (hs:Step env w env' w'):∀ {s:SV A} {v:Value},Rep O env w C s v→Rep O env' w' C s v
 | _,_,.junk => .junk
 | _,_,.undef => .undef
 | _,_,.val => .val
 | _,_,.int => .int
 | _,_,.lit => .lit
 | _,_,.bl => .bl
 | _,_,.sb => .sb
 | _,_,.ptr h => .ptr (h.step hs)
 | _,_,.aptr h => .aptr (h.step hs)
 | _,_,.asl h => .asl (h.step hs)
 | _,_,.rptr b o vs hO he hb hc h => .rptr b o vs hO (fun h1=>(hs.fresh b h1).elim he (fun h2=>by omega)) (Nat.lt_of_lt_of_le hb hs.size)
   (fun j u hu=>by
    have h1:=hc j u hu
    have h2:=hs.cells b hb he
    simp only [World.cell?,h2] at h1 ⊢
    exact h1) (RepL.step hs h)
 | _,_,.rints a c h1 h2 h => .rints a c h1 h2 (h.step hs)
 | _,_,.rseq a c vs h1 h2 h3 h hx => .rseq a c vs h1 h2 h3 (h.step hs) (fun j x hj=>RepL.step hs (hx j x hj))
 | _,_,.rful a vs h2 h3 h hx => .rful a vs h2 h3 (h.step hs) (fun j x hj=>RepL.step hs (hx j x hj))
 | _,_,.vec h => .vec (h.step hs)
 | _,_,.vptr h => .vptr (h.step hs)
 | _,_,.iface h => .iface (Rep.step hs h)
 | _,_,.err h => .err h
 | _,_,.fn us vs ha hb => .fn us vs (RepL.step hs ha) (RepL.step hs hb)
 | _,_,.agg vs h => .agg vs (RepL.step hs h)
 | _,_,.tup vs h => .tup vs (RepL.step hs h)
theorem RepL.step (hs:Step env w env' w'):∀ {cs:SL A} {vs:List Value},RepL O env w C cs vs→RepL O env' w' C cs vs
 | _,_,.nil => .nil
 | _,_,.cell h hr => .cell (Rep.step hs h) (RepL.step hs hr)
 | _,_,.run hn hr => .run hn (RepL.step hs hr)
end
end
end Go.Eng

/-! The engine's turning of code into what is to be proved of it. Conditions: none; this text holds definitions alone. -/
namespace Go.Eng
open Go
variable {A:Nat→Type}
abbrev Pred (A:Nat→Type):=SV A→List (SO A)→Prop
abbrev SpecT (A:Nat→Type):=List (SV A)→List (SO A)→Pred A→Prop
def alive (sh:List (SO A)) (i:Nat):Bool:=match nth sh i with
 | some (.cells _ _)=>true
 | some (.ivec _ _ _)=>true
 | some (.svec _ _)=>true
 | _=>false
def aliveM (sh:List (SO A)) (i:Nat):Bool:=match nth sh i with
 | some (.smap _ _ _ _)=>true
 | some (.amap _ _ _)=>true
 | some (.rmap _ _ _ _ _)=>true
 | _=>false
/-- A value of one cell that can be stored. -/
def oneCell (sh:List (SO A)):SV A→Bool
 | .int _ _=>true
 | .lit _ _=>true
 | .bl _=>true
 | .sb _ _=>true
 | .ptr i _=>if alive sh i then true else aliveM sh i
 | .vec i=>alive sh i
 | .rints _ _=>true
 | .rseq _ _=>true
 | .iface _ _=>true
 | .err _ _=>true
 | .fn _ _ _=>true
 | .val (.pointer none)=>true
 | .val (.slice none 0 0)=>true
 | .val .nilIface=>true
 | .val .nilFunc=>true
 | .val (.string _)=>true
 | .val (.map none)=>true
 | _=>false
/-- Cells that can be stored. -/
def storable (sh:List (SO A)):SL A→Bool
 | .nil=>true
 | .cell s r=>if oneCell sh s then storable sh r else false
 | .run _ _ _ r=>storable sh r
/-- Integers alone. -/
def plainInts:SL A→Bool
 | .nil=>true
 | .cell (.int _ _) r=>plainInts r
 | .run _ _ _ r=>plainInts r
 | _=>false
inductive Ex where
 | normal
 | exit (id:Nat)
 | ret
abbrev Post (A:Nat→Type):=Ex→List (SV A)→List (SO A)→Nat→Prop
structure LoopAnn (A:Nat→Type) where
 X:Type
 inv:X→Prop
 meas:X→Nat
 slots:X→List (Nat×SV A)
 heap:X→List (Nat×SO A)
 more:X→List (SO A):=fun _=>[]
abbrev Anns (A:Nat→Type):=Nat→List (SV A)→List (SO A)→Option (LoopAnn A)
def ofConst:Value→SV A
 | .int k n => .lit k n
 | .bool b => .bl b
 | v => .val v
/-- A vector that was let go is what it was let go as. -/
def rsl (sh:List (SO A)):SV A→SV A
 | .vec i=>match nth sh i with
  | some (.fr s)=>s
  | _ => .vec i
 | s=>s
def rslL (sh:List (SO A)):SL A→SL A
 | .nil => .nil
 | .cell v r => .cell (rsl sh v) (rslL sh r)
 | .run k n xs r => .run k n xs (rslL sh r)
def toSL (sh:List (SO A)):SV A→Option (SL A)
 | .agg cs=>if storable sh (rslL sh cs) then some (rslL sh cs) else none
 | s=>if oneCell sh s then some (.cell s .nil) else none
def mkL:List (SV A)→SL A
 | [] => .nil
 | s::l => .cell s (mkL l)
def unL:SL A→Option (List (SV A))
 | .nil=>some []
 | .cell s r=>match unL r with
  | some l=>some (s::l)
  | none=>none
 | .run _ _ _ _=>none
def desc (P:Program) (t:TypeId):TypeDesc:=match P.underlying t with
 | some d=>d
 | none => .invalid
def tsize (P:Program) (t:TypeId):Nat:=match P.info? t with
 | some i=>i.size
 | none=>0
def aggT (P:Program) (t:TypeId):Bool:=match desc P t with
 | .struct _=>true
 | .array _ _=>true
 | _=>false
def intT (P:Program) (t:TypeId):Option IntKind:=match desc P t with
 | .int k=>some k
 | _=>none
/-- A field's place and type. -/
def fieldOf (P:Program) (s:TypeId) (f:Nat):Option (Nat×TypeId):=match desc P s with
 | .struct fs=>match nth fs.toList f with
  | some x=>if tsize P x.type=0 then none else some (x.offset,x.type)
  | none=>none
 | _=>none
mutual
def zeroSL (P:Program):Nat→TypeId→Option (SL A)
 | 0,_=>none
 | d+1,t=>match desc P t with
  | .int k=>some (.cell (.lit k 0) .nil)
  | .bool=>some (.cell (.bl false) .nil)
  | .pointer _=>some (.cell (.val (.pointer none)) .nil)
  | .slice _=>some (.cell (.val (.slice none 0 0)) .nil)
  | .interface _=>some (.cell (.val .nilIface) .nil)
  | .func _ _ _=>some (.cell (.val .nilFunc) .nil)
  | .map _ _=>some (.cell (.val (.map none)) .nil)
  | .string=>some (.cell (.val (.string .empty)) .nil)
  | .array n e=>match desc P e with
   | .int k=>some (.run k n (List.replicate n 0) .nil)
   | _=>match zeroSL P d e with
    | some x=>some (repSL n x)
    | none=>none
  | .struct fs=>zeroFs P d fs.toList
  | _=>none
def zeroFs (P:Program):Nat→List Field→Option (SL A)
 | _,[]=>some .nil
 | 0,_::_=>none
 | d+1,f::fs=>match zeroSL P d f.type with
  | some x=>match zeroFs P d fs with
   | some y=>some (x.app y)
   | none=>none
  | none=>none
def repSL:Nat→SL A→SL A
 | 0,_ => .nil
 | n+1,x=>x.app (repSL n x)
end
def isNilLike:Value→Value→Bool
 | .pointer none,.pointer none=>true
 | .slice none 0 0,.slice none 0 0=>true
 | .nilIface,.nilIface=>true
 | .nilFunc,.nilFunc=>true
 | .map none,.map none=>true
 | .string a,.string b=>a.size==0&&b.size==0
 | _,_=>false
def zerosN (k:IntKind):Nat→List Value→Option (List Value)
 | 0,vs=>some vs
 | n+1,.int k' m::vs=>if k=k' then (if m=0 then zerosN k n vs else none) else none
 | _+1,_=>none
/-- Are these the zero cells? (Runs are held against zeros.) -/
def chkZ:SL A→List Value→Bool
 | .nil,[]=>true
 | .cell (.lit k n) r,.int k' m::vs=>if k=k' then (if n=m then chkZ r vs else false) else false
 | .cell (.bl b) r,.bool c::vs=>if b=c then chkZ r vs else false
 | .cell (.val x) r,y::vs=>if isNilLike x y then chkZ r vs else false
 | .run k n _ r,vs=>match zerosN k n vs with
  | some us=>chkZ r us
  | none=>false
 | _,_=>false
def tyZero (P:Program) (t:TypeId):Option (SL A):=match P.info? t with
 | some i=>match i.zero with
  | some z=>match zeroSL P 12 t with
   | some cs=>if chkZ cs z.cells.toList then some cs else none
   | none=>none
  | none=>none
 | none=>none
def inI64 (x:Int):Prop := -9223372036854775808≤x∧x≤9223372036854775807
def bitop (op:BinOp) (k:IntKind) (x y:Int):Int:=match op with
 | .and=>k.wrap (BitVec.ofInt k.bits x &&& BitVec.ofInt k.bits y).toNat
 | .or=>k.wrap (BitVec.ofInt k.bits x ||| BitVec.ofInt k.bits y).toNat
 | .xor=>k.wrap (BitVec.ofInt k.bits x ^^^ BitVec.ofInt k.bits y).toNat
 | _=>k.wrap (BitVec.ofInt k.bits x &&& ~~~BitVec.ofInt k.bits y).toNat
def shl (k:IntKind) (x y:Int):Int:=k.wrap (x*2 ^ (min y.toNat k.bits))
def shr (k:IntKind) (x y:Int):Int:=x.fdiv (2 ^ (min y.toNat k.bits))
def wr (k:IntKind) (x:Int):Int:=k.wrap x
def asInt:SV A→Option (IntKind×Int×Bool)
 | .int k n=>some (k,n,false)
 | .lit k n=>some (k,n,true)
 | _=>none
def asBool:SV A→Option Bool
 | .bl b=>some b
 | .sb _ b=>some b
 | _=>none
def mkInt (l:Bool) (k:IntKind) (n:Int):SV A:=if l then .lit k n else .int k n
def mkBool (l:Bool) (b:Bool):SV A:=if l then .bl b else .sb 0 b
def intBin (op:BinOp) (k:IntKind) (a b:Int) (l:Bool) (K:SV A→Prop):Prop:=
 match op with
 | .add=>match k,l with
  | .i64,false=>inI64 (a+b)∧K (.int .i64 (a+b))
  | k,l=>K (mkInt l k (wr k (a+b)))
 | .sub=>match k,l with
  | .i64,false=>inI64 (a-b)∧K (.int .i64 (a-b))
  | k,l=>K (mkInt l k (wr k (a-b)))
 | .mul=>match k,l with
  | .i64,false=>inI64 (a*b)∧K (.int .i64 (a*b))
  | k,l=>K (mkInt l k (wr k (a*b)))
 | .quo=>b≠0∧K (mkInt l k (wr k (a.tdiv b)))
 | .rem=>b≠0∧K (mkInt l k (a.tmod b))
 | .and=>K (mkInt l k (bitop .and k a b))
 | .or=>K (mkInt l k (bitop .or k a b))
 | .xor=>K (mkInt l k (bitop .xor k a b))
 | .andNot=>K (mkInt l k (bitop .andNot k a b))
 | .eql=>K (mkBool l (a==b))
 | .neq=>K (mkBool l (a != b))
 | .lss=>K (mkBool l (decide (a<b)))
 | .leq=>K (mkBool l (decide (a≤b)))
 | .gtr=>K (mkBool l (decide (a>b)))
 | .geq=>K (mkBool l (decide (a≥b)))
 | _=>False
/-- What is read of cells at a place, at a type. -/
def rdCells (P:Program) (t:TypeId) (cs:SL A) (off:Nat):Option (SV A):=
 if aggT P t then (match cs.sub off (tsize P t) with
  | some d=>some (.agg d)
  | none=>none) else cs.one off
/-- A type whose variables can be read here. -/
def okT (P:Program) (t:TypeId):Bool:=match desc P t with
 | .invalid=>false
 | .array n e=>match desc P e with
  | .int _=>if tsize P t=n then (if n=0 then false else true) else false
  | _=>if tsize P t=0 then false else true
 | _=>if tsize P t=0 then false else true
/-- Equality of integers, and of arrays of integers. -/
def eq1 (P:Program) (t:TypeId) (x y:SV A):Option Bool:=match desc P t with
 | .int _=>match asInt x,asInt y with
  | some (k,a,_),some (k',b,_)=>if k=k' then some (a==b) else none
  | _,_=>none
 | .array n e=>match desc P e with
  | .int _=>if tsize P e=1 then (match x,y with
   | .agg (.run k m xs .nil),.agg (.run k' m' ys .nil)=>if k=k' then (if m=n then (if m'=n then some (xs==ys) else none) else none) else none
   | _,_=>none) else none
  | _=>none
 | _=>none
def eqFs (P:Program) (a b:SL A):List Field→Option Bool
 | []=>some true
 | f :: fs => if f.name = "_" then none else (if okT P f.type then (match rdCells P f.type a f.offset, rdCells P f.type b f.offset with
  | some x,some y=>match eq1 P f.type x y,eqFs P a b fs with
   | some p,some q=>some (p&&q)
   | _,_=>none
  | _,_=>none) else none)
def cmpT (P:Program) (t:TypeId):Bool:=match P.info? t with
 | some i=>i.comparable
 | none=>false
/-- Equality of keys. -/
def keqS (P:Program) (t:TypeId) (a b:SL A):Option Bool:=match desc P t with
 | .struct fs=>eqFs P a b fs.toList
 | .array _ _=>eq1 P t (.agg a) (.agg b)
 | _=>none
structure Eng (A:Nat→Type) where
 P:Program
 TT:Nat→SpecT A
 GL:Nat→Option (SL A)
 C:Enc A
 dec:(t:Nat)→SL A→Option (A t)
 qf:Nat→Bool
 nu:Bool
 eqT:Nat→Bool
 eqOk:∀ t,eqT t=true→P.stoodInHeld t=false∧P.eqGuardType P.depth t=false
 encOk:∀ t y,storable ([]:List (SO A)) (C.enc t y)=true
 encLen:∀ t y,(C.enc t y).len=C.size t
 keyT:Nat→Bool
 keyPl:∀ t,keyT t=true→∀ x:A t,plainInts (C.enc t x)=true
 keyOk:∀ t,keyT t=true→∀ x y:A t,∃ b,keqS P t (C.enc t x) (C.enc t y)=some b∧(b=true↔x=y)
def ev (E:Eng A) (ts:List (SV A)):Operand→SV A
 | .tmp t=>match nth ts t with
  | some s=>s
  | none => .junk
 | .const v=>ofConst v
 | .global g=>match E.GL g with
  | some cs => .rptr cs 0
  | none => .junk
 | .func f => .fn (.func f) .nil .nil
def evr (E:Eng A) (ts:List (SV A)) (sh:List (SO A)) (x:Operand):SV A:=rsl sh (ev E ts x)
/-- Equality of values that are no integers. -/
def eqlS (E:Eng A) (t:TypeId) (cst:Bool) (x y:SV A):Option Bool:=
 match desc E.P t with
 | .bool=>match asBool x,asBool y with
  | some a,some b=>some (a==b)
  | _,_=>none
 | .interface _=>match x,y with
  | .val .nilIface,.val .nilIface=>if cst then some true else none
  | .val .nilIface,.iface _ _=>some false
  | .iface _ _,.val .nilIface=>some false
  | .err _ n,.val .nilIface=>if cst then some (n==0) else none
  | .val .nilIface,.err _ n=>if cst then some (n==0) else none
  | .iface t1 v,.iface t2 u=>match asInt v,asInt u with
   | some (k,a,_),some (k',b,_)=>if t1=t2 then (if k=k' then (if cmpT E.P t1 then (match desc E.P t1 with
    | .int _=>some (a==b)
    | _=>none) else none) else none) else some false
   | _,_=>none
  | _,_=>none
 | .pointer _=>match x,y with
  | .val (.pointer none),.val (.pointer none)=>some true
  | _,_=>none
 | .array _ _=>if E.eqT t then eq1 E.P t x y else none
 | .struct fs=>if E.eqT t then (match x,y with
  | .agg a,.agg b=>eqFs E.P a b fs.toList
  | _,_=>none) else none
 | .string=>match x,y with
  | .val (.string a),.val (.string b)=>some (a.toList==b.toList)
  | _,_=>none
 | _=>none
/-- A pointer held against nil. -/
def ptrNil (E:Eng A) (t:TypeId) (sh:List (SO A)) (x y:SV A):Bool:=match desc E.P t with
 | .pointer _=>match x,y with
  | .ptr i _,.val (.pointer none)=>alive sh i
  | .val (.pointer none),.ptr i _=>alive sh i
  | _,_=>false
 | _=>false
/-- A slice held against nil: what is known of the answer. -/
def slNil (E:Eng A) (t:TypeId) (sh:List (SO A)) (x y:SV A):Option (Bool→Prop):=match desc E.P t with
 | .slice _=>match y with
  | .val (.slice none 0 0)=>match x with
   | .rints _ xs=>some fun b=>xs≠[]→b=false
   | .rseq u xs=>if E.C.size u=0 then none else some fun b=>xs≠[]→b=false
   | .vec i=>match nth sh i with
    | some (.ivec _ _ xs)=>some fun b=>xs≠[]→b=false
    | some (.svec _ xs)=>some fun b=>xs≠[]→b=false
    | _=>none
   | .val (.slice none 0 0)=>some fun b=>b=true
   | _=>none
  | _=>none
 | _=>none
def isConst:Operand→Bool
 | .const _=>true
 | _=>false
def binS (E:Eng A) (op:BinOp) (t:TypeId) (cst:Bool) (sh:List (SO A)) (x y:SV A) (K:SV A→Prop):Prop:=
 match asInt x,asInt y with
 | some (k,a,l),some (k',b,m)=>
  match op with
  | .shl=>0≤b∧K (mkInt (l&&m) k (shl k a b))
  | .shr=>0≤b∧K (mkInt (l&&m) k (shr k a b))
  | op=>if k=k' then intBin op k a b (l&&m) K else False
 | _,_=>match op with
  | .eql=>if ptrNil E t sh x y then K (.bl false) else (match slNil E t sh x y with
   | some P=>∀ b,P b→K (.sb 0 b)
   | none=>match eqlS E t cst x y with
    | some b=>K (.sb 0 b)
    | none=>False)
  | .neq=>if ptrNil E t sh x y then K (.bl true) else (match slNil E t sh x y with
   | some P=>∀ b,P b→K (.sb 0 (!b))
   | none=>match eqlS E t cst x y with
    | some b=>K (.sb 0 (!b))
    | none=>False)
  | _=>False
def unS (op:UnOp) (x:SV A) (K:SV A→Prop):Prop:=
 match op,x with
 | .not,.bl b=>K (.bl (!b))
 | .not,.sb _ b=>K (.sb 0 (!b))
 | .neg,.lit k n=>K (.lit k (wr k (0-n)))
 | .neg,.int .i64 n=>inI64 (0-n)∧K (.int .i64 (0-n))
 | .neg,.int k n=>K (.int k (wr k (0-n)))
 | .xor,.int k n=>K (.int k (bitop .xor k (if k.signed then -1 else k.max) n))
 | .xor,.lit k n=>K (.lit k (bitop .xor k (if k.signed then -1 else k.max) n))
 | _,_=>False
/-- A read off a run that stands alone, at an open place. -/
def rdRun (P:Program) (t:TypeId) (k:IntKind) (xs:List Int) (j:Nat) (K:SV A→Prop):Prop:=
 match desc P t with
 | .int k'=>if k=k' then j<xs.length∧K (.int k (xs.getD j 0)) else False
 | .array n e=>match desc P e with
  | .int k'=>if k=k' then j+n≤xs.length∧K (.agg (.run k n ((xs.drop j).take n) .nil)) else False
  | _=>False
 | _=>False
def loadS (E:Eng A) (t:TypeId) (a:SV A) (sh:List (SO A)) (K:SV A→Prop):Prop:=
 if okT E.P t then match a with
 | .ptr i off=>match nth sh i with
  | some (.cells _ cs)=>match rdCells E.P t cs off with
   | some v=>K v
   | none=>False
  | _=>False
 | .aptr i off n j=>match nth sh i with
  | some (.cells _ cs)=>match cs.runAt off with
   | some (k,m,xs)=>if aggT E.P t then False else (if m=n then K (.int k (xs.getD j 0)) else False)
   | none=>False
  | _=>False
 | .rptr (.run k _ xs .nil) off=>rdRun E.P t k xs off K
 | .rptr cs off=>match rdCells E.P t cs off with
  | some v=>K v
  | none=>False
 | .vptr i j size off=>match nth sh i with
  | some (.ivec _ k xs)=>if aggT E.P t then (match desc E.P t with
   | .array n e=>match desc E.P e with
    | .int k'=>if k=k' then (if size=1 then (if off=0 then j+n≤xs.length∧K (.agg (.run k n ((xs.drop j).take n) .nil)) else False) else False) else False
    | _=>False
   | _=>False) else (if size=1 then (if off=0 then j<xs.length∧K (.int k (xs.getD j 0)) else False) else False)
  | some (.svec e xs)=>if size=E.C.size e then j<xs.length∧∀ y,xs[j]?=some y→match rdCells E.P t (E.C.enc e y) off with
   | some v=>K v
   | none=>False else False
  | _=>False
 | _=>False
 else False
def storeS (E:Eng A) (t:TypeId) (a v:SV A) (sh:List (SO A)) (K:List (SO A)→Prop):Prop:=
 match a with
 | .ptr i off=>match nth sh i with
  | some (.cells e cs)=>match toSL sh v with
   | some d=>if d.len=tsize E.P t then (if tsize E.P t=0 then False else (match cs.put off d with
    | some cs'=>K (setNth sh i (.cells e cs'))
    | none=>False)) else False
   | none=>False
  | _=>False
 | .aptr i off m j=>match nth sh i with
  | some (.cells e cs)=>match cs.runAt off,asInt v with
   | some (k,m',xs),some (k',n,_)=>if k=k' then (if tsize E.P t=1 then (if m'=m then ∀ ys,ys=xs.set j n→K (setNth sh i (.cells e (cs.runSet off ys))) else False) else False) else False
   | _,_=>False
  | _=>False
 | .vptr i j size off=>match nth sh i with
  | some (.ivec e k xs)=>match asInt v with
   | some (k',n,_)=>if k=k' then (if tsize E.P t=1 then (if size=1 then (if off=0 then j<xs.length∧∀ ys,ys=xs.set j n→K (setNth sh i (.ivec e k ys)) else False) else False) else False) else False
   | none=>False
  | _=>False
 | _=>False
/-- A slice's own vector, let go: read alone from here on. -/
def letGo (sh:List (SO A)):SV A→Option (SV A×List (SO A))
 | .vec i=>match nth sh i with
  | some (.ivec _ k xs)=>some (.rints k xs,setNth sh i (.fr (.rints k xs)))
  | some (.svec e xs)=>some (.rseq e xs,setNth sh i (.fr (.rseq e xs)))
  | some (.fr s)=>some (s,sh)
  | _=>none
 | s=>some (s,sh)
def letGoL (sh:List (SO A)):SL A→Option (SL A×List (SO A))
 | .nil=>some (.nil,sh)
 | .cell v r=>match letGo sh v with
  | some (v',sh1)=>match letGoL sh1 r with
   | some (r',sh2)=>some (.cell v' r',sh2)
   | none=>none
  | none=>none
 | .run k n xs r=>match letGoL sh r with
  | some (r',sh2)=>some (.run k n xs r',sh2)
  | none=>none
def letGoV (sh:List (SO A)):SV A→Option (SV A×List (SO A))
 | .agg cs=>match letGoL sh cs with
  | some (cs',sh')=>some (.agg cs',sh')
  | none=>none
 | s=>letGo sh s
mutual
/-- Are these the same? -/
def eqv:SV A→SV A→Prop
 | .int k n,.int k' m=>if k=k' then n=m else False
 | .int k n,.lit k' m=>if k=k' then n=m else False
 | .lit k n,.int k' m=>if k=k' then n=m else False
 | .lit k n,.lit k' m=>if k=k' then n=m else False
 | .bl a,.bl b=>a=b
 | .bl a,.sb _ b=>a=b
 | .sb _ a,.bl b=>a=b
 | .sb _ a,.sb _ b=>a=b
 | .vec i,.vec j=>if i=j then True else False
 | .ptr i o,.ptr j p=>if i=j then (if o=p then True else False) else False
 | .rints k xs,.rints k' ys=>if k=k' then xs=ys else False
 | .rints _ xs,.val (.slice none 0 0)=>xs=[]
 | .rseq t xs,.rseq u ys=>if h:u=t then xs=h▸ys else False
 | .rseq _ xs,.val (.slice none 0 0)=>xs=[]
 | .agg a,.agg b=>eqvL a b
 | .tup a,.tup b=>eqvL a b
 | .iface t a,.iface u b=>if t=u then eqv a b else False
 | .err t n,.err u m=>if t=u then n=m else False
 | .err _ n,.val .nilIface=>n=0
 | .err t n,.iface u (.int .i64 m)=>if t=u then n=m∧m≠0 else False
 | .err t n,.iface u (.lit .i64 m)=>if t=u then n=m∧m≠0 else False
 | .fn f a b,.fn g c d=>f=g∧eqvL a c∧eqvL b d
 | .junk,_=>True
 | x,y=>x=y
def eqvL:SL A→SL A→Prop
 | .nil,.nil=>True
 | .cell a r,.cell b s=>eqv a b∧eqvL r s
 | .run k n xs r,.run k' m ys s=>if k=k' then (if n=m then xs=ys∧eqvL r s else False) else False
 | _,_=>False
end
def castM {k v k' v':Nat} (h:k'=k) (h2:v'=v) (es:List (A k'×A v')):List (A k×A v):=by
 subst h
 subst h2
 exact es
def eqo:SO A→SO A→Prop
 | .dead,_=>True
 | .cells e a,.cells f b=>if e=f then eqvL a b else False
 | .ivec e k xs,.ivec f k' ys=>if e=f then (if k=k' then xs=ys else False) else False
 | .svec e xs,.svec f ys=>if h:f=e then xs=h▸ys else False
 | .smap k v es st,.smap k' v' es' st'=>if h:k'=k then (if h2:v'=v then es=castM h h2 es'∧st=st' else False) else False
 | .amap k v es,.smap k' v' es' _=>if h:k'=k then (if h2:v'=v then es=castM h h2 es' else False) else False
 | .amap k v es,.rmap k' v' es' _ _=>if h:k'=k then (if h2:v'=v then es=castM h h2 es' else False) else False
 | .rmap k v es st c,.rmap k' v' es' st' c'=>if h:k'=k then (if h2:v'=v then es=castM h h2 es'∧st=st'∧c=c' else False) else False
 | .amap k v es,.amap k' v' es'=>if h:k'=k then (if h2:v'=v then es=castM h h2 es' else False) else False
 | .miter m s a c,.miter m' s' a' c'=>eqv m m'∧s=s'∧a=a'∧c=c'
 | x,y=>x=y
def strictN (n:Nat) (k:Nat→Prop):Prop:=match n with
 | 0=>k 0
 | m+1=>k (m+1)
mutual
def strictV:SV A→(SV A→Prop)→Prop
 | .junk,k=>k .junk
 | .undef,k=>k .undef
 | .val v,k=>k (.val v)
 | .int d n,k=>k (.int d n)
 | .lit d n,k=>k (.lit d n)
 | .bl b,k=>k (.bl b)
 | .sb i b,k=>k (.sb i b)
 | .ptr i o,k=>strictN i fun i=>strictN o fun o=>k (.ptr i o)
 | .aptr i o n j,k=>strictN i fun i=>strictN o fun o=>k (.aptr i o n j)
 | .asl i o n,k=>strictN i fun i=>strictN o fun o=>strictN n fun n=>k (.asl i o n)
 | .rptr cs o,k=>k (.rptr cs o)
 | .rints d xs,k=>k (.rints d xs)
 | .rseq t xs,k=>k (.rseq t xs)
 | .rful t xs,k=>k (.rful t xs)
 | .vec i,k=>strictN i fun i=>k (.vec i)
 | .vptr i j s o,k=>strictN i fun i=>k (.vptr i j s o)
 | .iface t v,k=>k (.iface t v)
 | .err t n,k=>k (.err t n)
 | .fn f a b,k=>strictL a fun a=>strictL b fun b=>k (.fn f a b)
 | .agg cs,k=>strictL cs fun cs=>k (.agg cs)
 | .tup cs,k=>strictL cs fun cs=>k (.tup cs)
def strictL:SL A→(SL A→Prop)→Prop
 | .nil,k=>k .nil
 | .cell v r,k=>strictV v fun v=>strictL r fun r=>k (.cell v r)
 | .run d n xs r,k=>strictL r fun r=>k (.run d n xs r)
end
def strictT:List (SV A)→(List (SV A)→Prop)→Prop
 | [],k=>k []
 | v::r,k=>strictV v fun v=>strictT r fun r=>k (v::r)
def strictH:List (SO A)→(List (SO A)→Prop)→Prop
 | [],k=>k []
 | .dead::r,k=>strictH r fun r=>k (.dead::r)
 | .cells e cs::r,k=>strictL cs fun cs=>strictH r fun r=>k (.cells e cs::r)
 | .ivec e d xs::r,k=>strictH r fun r=>k (.ivec e d xs::r)
 | .svec e xs::r,k=>strictH r fun r=>k (.svec e xs::r)
 | .fr v::r,k=>strictV v fun v=>strictH r fun r=>k (.fr v::r)
 | .miter v s a c::r,k=>strictV v fun v=>strictH r fun r=>k (.miter v s a c::r)
 | .smap kt vt es st::r,k=>strictH r fun r=>k (.smap kt vt es st::r)
 | .amap kt vt es::r,k=>strictH r fun r=>k (.amap kt vt es::r)
 | .rmap kt vt es st c::r,k=>strictH r fun r=>k (.rmap kt vt es st c::r)
def go (ts:List (SV A)) (sh:List (SO A)) (n:Nat) (K:List (SV A)→List (SO A)→Nat→Prop):Prop:=
 strictT ts fun ts=>strictH sh fun sh=>strictN n fun n=>K ts sh n
theorem strictN_eq {n:Nat} {k:Nat→Prop}:strictN n k↔k n:=by
 cases n<;>exact Iff.rfl
mutual
theorem strictV_eq:∀ {v:SV A} {k:SV A→Prop},strictV v k↔k v
 | .junk,_=>by simp only [strictV]
 | .undef,_=>by simp only [strictV]
 | .val _,_=>by simp only [strictV]
 | .int _ _,_=>by simp only [strictV]
 | .lit _ _,_=>by simp only [strictV]
 | .bl _,_=>by simp only [strictV]
 | .sb _ _,_=>by simp only [strictV]
 | .ptr _ _,_=>by simp only [strictV,strictN_eq]
 | .aptr _ _ _ _,_=>by simp only [strictV,strictN_eq]
 | .asl _ _ _,_=>by simp only [strictV,strictN_eq]
 | .rptr _ _,_=>by simp only [strictV]
 | .rints _ _,_=>by simp only [strictV]
 | .rseq _ _,_=>by simp only [strictV]
 | .rful _ _,_=>by simp only [strictV]
 | .vec _,_=>by simp only [strictV,strictN_eq]
 | .vptr _ _ _ _,_=>by simp only [strictV,strictN_eq]
 | .iface _ _,_=>by simp only [strictV]
 | .err _ _,_=>by simp only [strictV]
 | .fn _ a b,_=>by simp only [strictV,strictL_eq]
 | .agg cs,_=>by simp only [strictV,strictL_eq]
 | .tup cs,_=>by simp only [strictV,strictL_eq]
theorem strictL_eq:∀ {cs:SL A} {k:SL A→Prop},strictL cs k↔k cs
 | .nil,_=>by simp only [strictL]
 | .cell v r,_=>by simp only [strictL,strictV_eq,strictL_eq]
 | .run _ _ _ r,_=>by simp only [strictL,strictL_eq]
end
theorem strictT_eq:∀ {ts:List (SV A)} {k:List (SV A)→Prop},strictT ts k↔k ts
 | [],_=>by simp only [strictT]
 | v::r,_=>by simp only [strictT,strictV_eq,strictT_eq]
theorem strictH_eq:∀ {sh:List (SO A)} {k:List (SO A)→Prop},strictH sh k↔k sh
 | [],_=>by simp only [strictH]
 | .dead::r,_=>by simp only [strictH,strictH_eq]
 | .cells _ cs::r,_=>by simp only [strictH,strictL_eq,strictH_eq]
 | .ivec _ _ _::r,_=>by simp only [strictH,strictH_eq]
 | .svec _ _::r,_=>by simp only [strictH,strictH_eq]
 | .fr _::r,_=>by simp only [strictH,strictV_eq,strictH_eq]
 | .miter _ _ _ _::r,_=>by simp only [strictH,strictV_eq,strictH_eq]
 | .smap _ _ _ _::r,_=>by simp only [strictH,strictH_eq]
 | .amap _ _ _::r,_=>by simp only [strictH,strictH_eq]
 | .rmap _ _ _ _ _::r,_=>by simp only [strictH,strictH_eq]
theorem go_eq {ts:List (SV A)} {sh:List (SO A)} {n:Nat} {K:List (SV A)→List (SO A)→Nat→Prop}:go ts sh n K↔K ts sh n:=by
 simp only [go,strictT_eq,strictH_eq,strictN_eq]
end Go.Eng

/-! The engine's turning of code into what is to be proved of it: operations, regions, code. Conditions: none; this text holds definitions alone. -/
namespace Go.Eng
open Go
variable {A:Nat→Type}
/-- How long a slice is. -/
def lenS (sh:List (SO A)):SV A→Option (Int×Bool)
 | .rints _ xs=>some ((xs.length:Nat),false)
 | .rseq _ xs=>some ((xs.length:Nat),false)
 | .vec i=>match nth sh i with
  | some (.ivec _ _ xs)=>some ((xs.length:Nat),false)
  | some (.svec _ xs)=>some ((xs.length:Nat),false)
  | _=>none
 | .asl i _ n=>if alive sh i then some ((n:Nat),true) else none
 | .val (.slice none 0 0)=>some (0,true)
 | .val (.string s)=>some ((s.size:Nat),true)
 | _=>none
def indexS (E:Eng A) (t:TypeId) (x idx:SV A) (sh:List (SO A)) (K:SV A→Prop):Prop:=
 match asInt idx with
 | none=>False
 | some (_,i,l)=>match desc E.P t with
  | .array n e=>match x with
   | .ptr b off=>match (match nth sh b with
     | some (.cells _ cs)=>cs.runAt off
     | _=>none) with
    | some (_,m,_)=>if tsize E.P e=1 then (if m=n then 0≤i∧i<(n:Nat)∧K (.aptr b off n i.toNat) else False) else (if l then (if 0≤i∧i<(n:Nat) then (if tsize E.P e=0 then False else (if alive sh b then K (.ptr b (off+i.toNat*tsize E.P e)) else False)) else False) else False)
    | none=>if l then (if 0≤i∧i<(n:Nat) then (if tsize E.P e=0 then False else (if alive sh b then K (.ptr b (off+i.toNat*tsize E.P e)) else False)) else False) else False
   | .rptr (.run k m xs .nil) off=>if tsize E.P e=0 then False else 0≤i∧i<(n:Nat)∧K (.rptr (.run k m xs .nil) (off+i.toNat*tsize E.P e))
   | .rptr cs off=>if l then (if 0≤i∧i<(n:Nat) then (if tsize E.P e=0 then False else K (.rptr cs (off+i.toNat*tsize E.P e))) else False) else False
   | _=>False
  | .slice e=>match x with
   | .rints k xs=>if tsize E.P e=1 then 0≤i∧i<(xs.length:Nat)∧K (.rptr (.run k xs.length xs .nil) i.toNat) else False
   | .rseq u xs=>if tsize E.P e=E.C.size u then if tsize E.P e=0 then False else 0≤i∧i<(xs.length:Nat)∧∀ y,xs[i.toNat]?=some y→K (.rptr (E.C.enc u y) 0) else False
   | .vec j=>match nth sh j with
    | some (.ivec _ _ xs)=>if tsize E.P e=1 then 0≤i∧i<(xs.length:Nat)∧K (.vptr j i.toNat 1 0) else False
    | some (.svec u xs)=>if tsize E.P e=E.C.size u then if tsize E.P e=0 then False else 0≤i∧i<(xs.length:Nat)∧K (.vptr j i.toNat (E.C.size u) 0) else False
    | _=>False
   | .asl b off n=>if tsize E.P e=1 then (if alive sh b then 0≤i∧i<(n:Nat)∧K (.aptr b off n i.toNat) else False) else False
   | _=>False
  | _=>False
def fieldS (E:Eng A) (s:TypeId) (x:SV A) (sh:List (SO A)) (f:Nat) (K:SV A→Prop):Prop:=
 match fieldOf E.P s f with
 | none=>False
 | some (o,_)=>match x with
  | .ptr i off=>if alive sh i then K (.ptr i (off+o)) else False
  | .rptr (.run _ _ _ .nil) _=>False
  | .rptr cs off=>K (.rptr cs (off+o))
  | .vptr i j size off=>if alive sh i then K (.vptr i j size (off+o)) else False
  | _=>False
/-- A part of a struct's value. -/
def fieldVS (E:Eng A) (s:TypeId) (x:SV A) (f:Nat) (K:SV A→Prop):Prop:=
 match fieldOf E.P s f with
 | none=>False
 | some (o,t)=>match x with
  | .agg cs=>if okT E.P t then (match rdCells E.P t cs o with
   | some v=>K v
   | none=>False) else False
  | _=>False
/-- The bounds of a slice expression: low, high. -/
def boundS (ev:Operand→SV A) (x:Option Operand) (d:Int):Option Int:=match x with
 | none=>some d
 | some o=>match asInt (ev o) with
  | some (_,i,_)=>some i
  | none=>none
/-- .. where they are written out. -/
def boundL (ev:Operand→SV A) (x:Option Operand) (d:Nat):Option Nat:=match x with
 | none=>some d
 | some o=>match ev o with
  | .lit _ i=>if 0≤i then some i.toNat else none
  | _=>none
def sliceS (E:Eng A) (ev:Operand→SV A) (t:TypeId) (x:Operand) (lo hi mx:Option Operand) (sh:List (SO A)) (K:SV A→List (SO A)→Prop):Prop:=
 match mx with
 | some m=>match desc E.P t with
  | .slice e=>if tsize E.P e=0 then False else match ev x with
   | .rseq u xs=>match lo,hi with
    | none,some g=>match asInt (ev g),asInt (ev m) with
     | some (_,h,_),some (_,k,_)=>if tsize E.P e=E.C.size u then h=(xs.length:Nat)∧k=(xs.length:Nat)∧K (.rful u xs) sh else False
     | _,_=>False
    | _,_=>False
   | _=>False
  | _=>False
 | none=>match desc E.P t with
  | .slice e=>if tsize E.P e=0 then False else match lenS sh (ev x) with
   | none=>False
   | some (n,_)=>match boundS ev lo 0,boundS ev hi n with
    | some l,some h=>match ev x with
     | .rints k xs=>if tsize E.P e=1 then 0≤l∧l≤h∧h≤n∧K (.rints k ((xs.take h.toNat).drop l.toNat)) sh else False
     | .rseq u xs=>if tsize E.P e=E.C.size u then 0≤l∧l≤h∧h≤n∧K (.rseq u ((xs.take h.toNat).drop l.toNat)) sh else False
     | .vec i=>match lo,nth sh i with
      | none,some (.ivec e' k xs)=>if tsize E.P e=1 then 0≤h∧h≤n∧K (.vec (cnt (setNth sh i .dead))) (snoc (setNth sh i .dead) (.ivec e' k (xs.take h.toNat))) else False
      | some _,some (.ivec _ k xs)=>if tsize E.P e=1 then 0≤l∧l≤h∧h≤n∧K (.rints k ((xs.take h.toNat).drop l.toNat)) (setNth sh i (.fr (.rints k xs))) else False
      | _,_=>False
     | .val (.slice none 0 0)=>if l=0 then (if h=0 then K (.val (.slice none 0 0)) sh else False) else False
     | _=>False
    | _,_=>False
  | .array n e=>match ev x with
   | .ptr b off=>match boundL ev lo 0,boundL ev hi n with
    | some l,some h=>if tsize E.P e=1 then (if l<h∧h≤n∧n≤65536 then (if alive sh b then K (.asl b (off+l) (h-l)) sh else False) else False) else False
    | _,_=>False
   | _=>False
  | _=>False
/-- A slice's elements, where they are integers: its kind and what they are. -/
def intsOfS (sh:List (SO A)):SV A→Option (Option IntKind×List Int)
 | .rints k xs=>some (some k,xs)
 | .vec i=>match nth sh i with
  | some (.ivec _ k xs)=>some (some k,xs)
  | _=>none
 | .asl i off n=>match nth sh i with
  | some (.cells _ cs)=>match cs.part off n with
   | some (k,xs)=>some (some k,xs)
   | none=>none
  | _=>none
 | .val (.slice none 0 0)=>some (none,[])
 | _=>none
def castL {t:Nat} (u:Nat) (xs:List (A t)):Option (List (A u)):=if h:t=u then some (h▸xs) else none
def seqOfS (t:Nat) (sh:List (SO A)):SV A→Option (List (A t))
 | .rseq _ xs=>castL t xs
 | .vec i=>match nth sh i with
  | some (.svec _ xs)=>castL t xs
  | _=>none
 | .val (.slice none 0 0)=>some []
 | _=>none
def kindOk:Option IntKind→IntKind→Bool
 | none,_=>true
 | some k,k'=>if k=k' then true else false
def tbytes (P:Program) (t:TypeId):Nat:=match P.info? t with
 | some i=>i.bytes
 | none=>0
def appendS (E:Eng A) (t:TypeId) (s x:SV A) (sh:List (SO A)) (K:SV A→List (SO A)→Prop):Prop:=
 match desc E.P t with
 | .slice e=>match tyZero (A:=A) E.P e with
  | none=>False
  | some z=>if z.len=tsize E.P e then (match intT E.P e with
   | some k=>if tsize E.P e=1 then (match intsOfS sh x with
    | some (k',ys)=>if kindOk k' k then (match s with
     | .vec i=>match nth sh i with
      | some (.ivec e' k2 xs)=>if e'=e then (if k2=k then (xs.length+ys.length)*tbytes E.P e≤140737488355328∧xs.length+ys.length≤1152921504606846976∧K (.vec (cnt (setNth sh i .dead))) (snoc (setNth sh i .dead) (.ivec e k (xs++ys))) else False) else False
      | _=>False
     | .val (.slice none 0 0)=>ys.length*tbytes E.P e≤140737488355328∧ys.length≤1152921504606846976∧K (.vec (cnt sh)) (snoc sh (.ivec e k ys))
     | _=>False) else False
    | none=>False) else False
   | none=>if tsize E.P e=E.C.size e then (if tsize E.P e=0 then False else (match seqOfS e sh x with
    | some ys=>match s with
     | .vec i=>match nth sh i with
      | some (.svec _e' xs')=>match castL e xs' with
       | some xs=>(xs.length+ys.length)*tbytes E.P e≤140737488355328∧xs.length+ys.length≤1152921504606846976∧K (.vec (cnt (setNth sh i .dead))) (snoc (setNth sh i .dead) (.svec e (xs++ys)))
       | none=>False
      | _=>False
     | .val (.slice none 0 0)=>ys.length*tbytes E.P e≤140737488355328∧ys.length≤1152921504606846976∧K (.vec (cnt sh)) (snoc sh (.svec e ys))
     | .rful _u xs'=>match castL e xs' with
      | some xs=>(xs.length+ys.length)*tbytes E.P e≤140737488355328∧xs.length+ys.length≤1152921504606846976∧K (.rseq e (xs++ys)) (snoc sh (.fr (.rseq e (xs++ys))))
      | none=>False
     | _=>False
    | none=>False)) else False) else False
 | _=>False
/-- An append of zeros to nothing. -/
def appendZS (E:Eng A) (t u:TypeId) (s x:SV A) (sh:List (SO A)) (K:SV A→List (SO A)→Prop):Prop:=
 match desc E.P t,desc E.P u,asInt x with
 | .slice e,.int _,some (_,n,_)=>match s with
  | .val (.slice none 0 0)=>match tyZero (A:=A) E.P e,intT E.P e with
   | some _,some k=>if tsize E.P e=1 then 0≤n∧n*(tbytes E.P e:Nat)≤140737488355328∧n≤1152921504606846976∧K (.vec (cnt sh)) (snoc sh (.ivec e k (List.replicate n.toNat 0))) else False
   | _,_=>False
  | _=>False
 | _,_,_=>False
def copyInts (old xs:List Int):List Int:=xs.take old.length++old.drop xs.length
def copyS (E:Eng A) (t:TypeId) (d s:SV A) (sh:List (SO A)) (K:SV A→List (SO A)→Prop):Prop:=
 match desc E.P t with
 | .slice el=>if tsize E.P el=1 then (match intsOfS sh s with
  | none=>False
  | some (k',xs)=>match d with
   | .asl i off n=>match nth sh i with
    | some (.cells e cs)=>match cs.part off n with
     | some (k,old)=>if kindOk k' k then K (.int .i64 (min xs.length n:Nat)) (setNth sh i (.cells e (cs.partSet off n (copyInts old xs)))) else False
     | none=>False
    | _=>False
   | .vec i=>match nth sh i with
    | some (.ivec e k old)=>if kindOk k' k then K (.int .i64 (min xs.length old.length:Nat)) (setNth sh i (.ivec e k (copyInts old xs))) else False
    | _=>False
   | _=>False) else False
 | _=>False
/-- The elements of a slice that is written out. -/
def decAll (E:Eng A) (t:Nat) (sh:List (SO A)):List (SV A)→(List (A t)→List (SO A)→Prop)→Prop
 | [],K=>K [] sh
 | s::l,K=>match letGoV sh s with
  | some (v,sh1)=>match toSL sh1 v with
   | some cs=>match E.dec t cs with
    | some y=>eqvL (E.C.enc t y) cs∧decAll E t sh1 l fun ys sh2=>K (y::ys) sh2
    | none=>False
   | none=>False
  | none=>False
def intAll (k:IntKind):List (SV A)→Option (List Int)
 | []=>some []
 | s::l=>match asInt s,intAll k l with
  | some (k',n,_),some ns=>if k=k' then some (n::ns) else none
  | _,_=>none
/-- The parts of a slice that is written out, in order and whole. -/
def partsInOrder:Nat→List (Nat×SV A)→Option (List (SV A))
 | _,[]=>some []
 | n,(i,s)::l=>if i=n then (match partsInOrder (n+1) l with
  | some r=>some (s::r)
  | none=>none) else none
def buildSliceS (E:Eng A) (t:TypeId) (n:Nat) (parts:List (Nat×SV A)) (sh:List (SO A)) (K:SV A→List (SO A)→Prop):Prop:=
 match desc E.P t with
 | .slice e=>match tyZero (A:=A) E.P e with
  | none=>False
  | some z=>if z.len=tsize E.P e then (match partsInOrder 0 parts with
   | some l=>if cnt l=n then (if n*tsize E.P e≤65536 then (match intT E.P e with
    | some k=>if tsize E.P e=1 then (match intAll k l with
     | some ns=>K (.vec (cnt sh)) (snoc sh (.ivec e k ns))
     | none=>False) else False
    | none=>if tsize E.P e=E.C.size e then (if tsize E.P e=0 then False else decAll E e sh l fun ys sh1=>K (.vec (cnt sh1)) (snoc sh1 (.svec e ys))) else False) else False) else False
   | none=>False) else False
 | _=>False
/-- A struct or an array that is written out: parts laid over zeros. -/
def fillS (P:Program) (place:Nat→Option (Nat×Nat)) (sh:List (SO A)):SL A→List (Nat×SV A)→Option (SL A)
 | cs,[]=>some cs
 | cs,(i,s)::l=>match place i,toSL sh s with
  | some (o,size),some d=>if d.len=size then (match cs.put o d with
   | some cs'=>fillS P place sh cs' l
   | none=>none) else none
  | _,_=>none
def placeOf (P:Program) (t:TypeId) (i:Nat):Option (Nat×Nat):=match desc P t with
 | .struct fs=>match nth fs.toList i with
  | some f=>some (f.offset,tsize P f.type)
  | none=>none
 | .array _ e=>some (i*tsize P e,tsize P e)
 | _=>none
/-- An array of integers that is written out. -/
def intsParts (k:IntKind) (n:Nat) (parts:List (Nat×SV A)):Option (List Int):=match partsInOrder 0 parts with
 | some l=>if cnt l=n then intAll k l else none
 | none=>none
def sizedAll (P:Program):List Field→Bool
 | []=>true
 | f::l=>if tsize P f.type=0 then false else sizedAll P l
def buildOk (P:Program) (t:TypeId):Bool:=match desc P t with
 | .struct fs=>sizedAll P fs.toList
 | .array _ e=>if tsize P e=0 then false else true
 | _=>false
def zeroOk (A:Nat→Type) (P:Program) (t e:TypeId) (n:Nat):Bool:=if tsize P e=1 then (match tyZero (A:=A) P t with
 | some z=>if z.len=n then true else false
 | none=>false) else false
theorem zeroOk_spec {P:Program} {t e:TypeId} {n:Nat} (h:zeroOk A P t e n=true):tsize P e=1∧∃ z,tyZero (A:=A) P t=some z∧z.len=n:=by
 unfold zeroOk at h
 split at h
 ·split at h
  ·split at h
   ·exact ⟨by assumption,_,by assumption,by assumption⟩
   ·cases h
  ·cases h
 ·cases h
def buildS (E:Eng A) (t:TypeId) (parts:List (Nat×SV A)) (sh:List (SO A)) (K:SV A→Prop):Prop:=
 match (match desc E.P t with
  | .array n e=>match intT E.P e with
   | some k=>match parts with
    | []=>none
    | _=>match intsParts k n parts with
     | some ns=>if zeroOk A E.P t e n then some (SL.run k n ns .nil) else none
     | none=>none
   | none=>none
  | _=>none) with
 | some cs=>K (.agg cs)
 | none=>if buildOk E.P t then (match tyZero E.P t with
  | some z=>match fillS E.P (placeOf E.P t) sh z parts with
   | some cs=>K (.agg cs)
   | none=>False
  | none=>False) else False
/-- Bytes, as a string. -/
def bytesS (E:Eng A) (src dst:TypeId) (x:SV A) (sh:List (SO A)) (K:SV A→Prop):Prop:=
 match desc E.P src with
 | .slice e=>match desc E.P dst with
  | .string=>match desc E.P e with
   | .int .u8=>match intsOfS sh x with
    | some (k,xs)=>if kindOk k .u8 then K (.val (.string (strOfNums xs))) else False
    | none=>False
   | _=>False
  | _=>False
 | _=>False
def convS (E:Eng A) (src dst:TypeId) (x:SV A) (sh:List (SO A)) (K:SV A→Prop):Prop:=
 match desc E.P src with
 | .int _=>match desc E.P dst,asInt x with
  | .int k,some (_,n,l)=>K (mkInt l k (wr k n))
  | _,_=>False
 | _=>bytesS E src dst x sh K
/-- A row of bytes that is written out, as a conversion to its own type leaves it: read alone. -/
def sameS (E:Eng A) (d:TypeId) (x:SV A) (sh:List (SO A)) (K:SV A→List (SO A)→Prop):Prop:=
 match desc E.P d with
 | .slice e=>match desc E.P e with
  | .int .u8=>match x with
   | .vec i=>match nth sh i with
    | some (.ivec _ k xs)=>xs≠[]∧K (.rints k xs) (setNth sh i (.fr (.rints k xs)))
    | _=>False
   | _=>False
  | _=>False
 | _=>False
/-- A store, into a part of a vector's element too. -/
def storeV (E:Eng A) (t:TypeId) (a v:SV A) (sh:List (SO A)) (K:List (SO A)→Prop):Prop:=
 match a with
 | .vptr i j size off=>match nth sh i with
  | some (.svec _ _)=>match letGoV sh v with
   | some (v',sh1)=>match nth sh1 i with
    | some (.svec e xs)=>match toSL sh1 v' with
     | some d=>if d.len=tsize E.P t then (if tsize E.P t=0 then False else (if size=E.C.size e then (j<xs.length∧∀ y,xs[j]?=some y→match (E.C.enc e y).put off d with
      | some cs=>match E.dec e cs with
       | some y'=>eqvL (E.C.enc e y') cs∧K (setNth sh1 i (.svec e (xs.set j y')))
       | none=>False
      | none=>False) else False)) else False
     | none=>False
    | _=>False
   | none=>False
  | _=>storeS E t (.vptr i j size off) v sh K
 | a=>storeS E t a v sh K
/-- A slice's head, as an array. -/
def s2apS (E:Eng A) (t:TypeId) (x:SV A) (sh:List (SO A)) (K:SV A→Prop):Prop:=
 match desc E.P t with
 | .array n _=>if n=0 then False else (match x with
  | .rints k xs=>n≤xs.length∧K (.rptr (.run k xs.length xs .nil) 0)
  | .vec i=>match nth sh i with
   | some (.ivec _ _ xs)=>n≤xs.length∧K (.vptr i 0 1 0)
   | _=>False
  | _=>False)
 | _=>False
/-- One letter of a string; one number of an array. -/
def idxS (E:Eng A) (t:TypeId) (x idx:SV A) (K:SV A→Prop):Prop:=
 match asInt idx with
 | none=>False
 | some (_,i,_)=>match desc E.P t with
  | .string=>match x with
   | .val v=>match v with
    | .string s=>0≤i∧i<(s.size:Nat)∧K (.int .u8 (s.data.toList.getD i.toNat 0).toNat)
    | _=>False
   | _=>False
  | .array n e=>match desc E.P e with
   | .int k'=>if tsize E.P e=1 then (match x with
    | .agg (.run k m xs .nil)=>if k=k' then (if m=n then 0≤i∧i<(n:Nat)∧K (.int k (xs.getD i.toNat 0)) else False) else False
    | _=>False) else False
   | _=>False
  | _=>False
/-- Where a key stands in a map, and what is there. -/
noncomputable def mfind {K V:Type} (k:K):List (K×V)→Option (Nat×V)
 | []=>none
 | p::l=>open Classical in if p.1=k then some (0,p.2) else (match mfind k l with
  | some (i,v)=>some (i+1,v)
  | none=>none)
/-- A field can be held against another. -/
def flat1 (P:Program) (t:TypeId):Bool:=match desc P t with
 | .int _=>true
 | .array n e=>match desc P e with
  | .int _=>if tsize P e=1 then (if tsize P t=n then true else false) else false
  | _=>false
 | _=>false
def flatFs (P:Program):List Field→Bool
 | []=>true
 | f::fs=>if flat1 P f.type then (if tsize P f.type=0 then false else flatFs P fs) else false
/-- May these be keys here? -/
def keyTy (P:Program) (t:TypeId):Bool:=match desc P t with
 | .struct fs=>flatFs P fs.toList
 | .array _ _=>flat1 P t
 | _=>false
def zeroAgg (P:Program) (t:TypeId):Bool:=match P.info? t with
 | some i=>match i.zero with
  | some (.agg _)=>true
  | _=>false
 | none=>false
def okMap (E:Eng A) (kt vt:TypeId):Bool:=if E.keyT kt then (if E.eqT kt then (if keyTy E.P kt then (if tsize E.P kt=E.C.size kt then (if tsize E.P vt=E.C.size vt then (if tsize E.P vt=0 then false else (if E.C.agg vt=aggT E.P vt then (if zeroAgg E.P vt=aggT E.P vt then true else false) else false)) else false) else false) else false) else false) else false
/-- A key. -/
def keyS (E:Eng A) (kt:Nat) (v:SV A) (sh:List (SO A)) (K:A kt→Prop):Prop:=match v with
 | .agg cs0=>match toSL sh (.agg cs0) with
  | some cs=>match E.dec kt cs with
   | some y=>if plainInts cs then eqvL (E.C.enc kt y) cs∧K y else False
   | none=>False
  | none=>False
 | _=>False
/-- Cells, as a value. -/
def cellV (P:Program) (t:TypeId) (cs:SL A):Option (SV A):=if aggT P t then some (.agg cs) else (match cs with
 | .cell s .nil=>some s
 | _=>none)
def isAgg':SV A→Bool
 | .agg _=>true
 | _=>false
/-- A value that goes into a map. -/
def valS (E:Eng A) (vt:Nat) (v:SV A) (sh:List (SO A)) (K:A vt→List (SO A)→Prop):Prop:=match letGoV sh v with
 | some (v',sh1)=>if isAgg' v'=aggT E.P vt then (match toSL sh1 v' with
  | some cs=>match E.dec vt cs with
   | some y=>eqvL (E.C.enc vt y) cs∧K y sh1
   | none=>False
  | none=>False) else False
 | none=>False
def makeMapS (E:Eng A) (t:TypeId) (r:Option Operand) (sh:List (SO A)) (K:SV A→List (SO A)→Prop):Prop:=match r with
 | some _=>False
 | none=>match desc E.P t with
  | .map kt vt=>if okMap E kt vt then K (.ptr (cnt sh) 0) (snoc sh (.smap kt vt [] [])) else False
  | _=>False
def lookupS (E:Eng A) (t:TypeId) (m k:SV A) (ok:Bool) (sh:List (SO A)) (K:SV A→Prop):Prop:=match desc E.P t with
 | .map kt vt=>match m with
  | .ptr i _=>match nth sh i with
   | some (.smap kt' vt' es _)=>if kt'=kt then (if vt'=vt then (if okMap E kt' vt' then keyS E kt' k sh fun y=>
     (∀ j z,mfind y es=some (j,z)→match cellV E.P vt' (E.C.enc vt' z) with
      | some v=>K (if ok then .tup (.cell v (.cell (.bl true) .nil)) else v)
      | none=>False) ∧
     (mfind y es=none→match tyZero E.P vt' with
      | some zs=>match cellV E.P vt' zs with
       | some v=>K (if ok then .tup (.cell v (.cell (.bl false) .nil)) else v)
       | none=>False
      | none=>False) else False) else False) else False
   | _=>False
  | _=>False
 | _=>False
def mapUpdateS (E:Eng A) (t:TypeId) (m k x:SV A) (sh:List (SO A)) (K:SV A→List (SO A)→Prop):Prop:=match desc E.P t with
 | .map kt vt=>match m with
  | .ptr i _=>match nth sh i with
   | some (.smap kt' vt' _ _)=>if kt'=kt then (if vt'=vt then (if okMap E kt' vt' then (keyS E kt' k sh fun y=>valS E vt' x sh fun z sh1=>match nth sh1 i with
     | some (.smap kt2 vt2 es st)=>if h:kt2=kt' then (if h2:vt2=vt' then
      (∀ j z0,mfind y (castM h h2 es)=some (j,z0)→K .undef (setNth sh1 i (.smap kt' vt' ((castM h h2 es).set j (y,z)) st))) ∧
      (mfind y (castM h h2 es)=none→∀ b:Int,K .undef (setNth sh1 i (.smap kt' vt' (castM h h2 es++[(y,z)]) (st++[b])))) else False) else False
     | _=>False) else False) else False) else False
   | _=>False
  | _=>False
 | _=>False
/-- A map's entry, that is to be written: what is there, and its mark. -/
def mapEntryS (E:Eng A) (t:TypeId) (m k:SV A) (sh:List (SO A)) (K:SV A→List (SO A)→Prop):Prop:=match desc E.P t with
 | .map kt vt=>match m with
  | .ptr i _=>match nth sh i with
   | some (.smap kt' vt' es st)=>if kt'=kt then (if vt'=vt then (if okMap E kt' vt' then keyS E kt' k sh fun y=>
     (∀ j z,mfind y es=some (j,z)→∀ b,st[j]?=some b→match cellV E.P vt' (E.C.enc vt' z) with
      | some v=>K (.tup (.cell v (.cell (.int .i64 b) .nil))) sh
      | none=>False) ∧
     (mfind y es=none→∀ b:Int,b∉st→es.length=st.length→match tyZero E.P vt' with
      | some zs=>match cellV E.P vt' zs,E.dec vt' zs with
       | some v,some z=>eqvL (E.C.enc vt' z) zs∧K (.tup (.cell v (.cell (.int .i64 b) .nil))) (setNth sh i (.smap kt' vt' (es++[(y,z)]) (st++[b])))
       | _,_=>False
      | none=>False) else False) else False) else False
   | _=>False
  | _=>False
 | _=>False
def mapSet {K V:Type} (es:List (K×V)) (j:Nat) (z:V):List (K×V):=es.modify j fun p=>(p.1,z)
def entryStoreS (E:Eng A) (t:TypeId) (m s x:SV A) (sh:List (SO A)) (K:SV A→List (SO A)→Prop):Prop:=match desc E.P t with
 | .map kt vt=>match m with
  | .ptr i _=>match nth sh i with
   | some (.smap kt' vt' _ _)=>if kt'=kt then (if vt'=vt then (if okMap E kt' vt' then (match s with
    | .int .i64 b=>valS E vt' x sh fun z sh1=>match nth sh1 i with
     | some (.smap kt2 vt2 es st)=>if h:kt2=kt' then (if h2:vt2=vt' then
      ∃ j,st[j]?=some b∧K .undef (setNth sh1 i (.smap kt' vt' (mapSet (castM h h2 es) j z) st)) else False) else False
     | _=>False
    | _=>False) else False) else False) else False
   | _=>False
  | _=>False
 | _=>False
/-- A map whose marks nobody knew: they get names. -/
def freshM (m:SV A) (sh:List (SO A)) (k:List (SO A)→Prop):Prop:=match m with
 | .ptr i _=>match nth sh i with
  | some (.amap kt vt es)=>∀ st:List Int,st.Nodup→st.length=es.length→k (setNth sh i (.smap kt vt es st))
  | some (.rmap kt vt es st _)=>k (setNth sh i (.smap kt vt es st))
  | _=>k sh
 | _=>k sh
/-- An entry that goes. -/
def deleteS (E:Eng A) (t:TypeId) (m k:SV A) (sh:List (SO A)) (K:SV A→List (SO A)→Prop):Prop:=match desc E.P t with
 | .map kt vt=>match m with
  | .ptr i _=>match nth sh i with
   | some (.smap kt' vt' es st)=>if kt'=kt then (if vt'=vt then (if okMap E kt' vt' then keyS E kt' k sh fun y=>
     (∀ j z,mfind y es=some (j,z)→K (.tup .nil) (setNth sh i (.smap kt' vt' (es.eraseIdx j) (st.eraseIdx j)))) ∧
     (mfind y es=none→K (.tup .nil) (setNth sh i (.smap kt' vt' es st))) else False) else False) else False
   | _=>False
  | _=>False
 | _=>False
/-- The entries of a map, one after the other, in whatever order: the iterator. -/
def rangeS (E:Eng A) (t:TypeId) (m:SV A) (sh:List (SO A)) (K:SV A→List (SO A)→Prop):Prop:=match desc E.P t with
 | .map _ _=>match m with
  | .ptr i _=>match nth sh i with
   | some (.smap kt vt es st)=>∀ c:Nat,st.Nodup→st.length=es.length→(∀ b,b∈st→b<(c:Int))→K (.ptr (cnt (setNth sh i (.rmap kt vt es st c))) 0) (snoc (setNth sh i (.rmap kt vt es st c)) (.miter (.ptr i 0) c [] c))
   | _=>False
  | _=>False
 | _=>False
/-- .. its next step. -/
def nextS (E:Eng A) (x:SV A) (text:Bool) (sh:List (SO A)) (K:SV A→List (SO A)→Prop):Prop:=if text then False else (match x with
 | .ptr it 0=>match nth sh it with
  | some (.miter (.ptr i _) since seen last)=>match nth sh i with
   | some (.rmap kt vt es st c)=>if okMap E kt vt then (∀ b,b∈st→b<(since:Int))∧(∀ b,b∈st→b<(last:Int)) ∧
     ((∀ b,b∈st→b∈seen)→K (.tup (.cell (.bl false) .nil)) sh) ∧
     (∀ (j:Nat) (p:A kt×A vt) (b:Int),es[j]?=some p→st[j]?=some b→b∉seen→match cellV E.P vt (E.C.enc vt p.2) with
      | some v=>K (.tup (.cell (.bl true) (.cell (.agg (E.C.enc kt p.1)) (.cell v .nil)))) (setNth sh it (.miter (.ptr i 0) since (seen++[b]) c))
      | none=>False) else False
   | _=>False
  | _=>False
 | _=>False)
/-- .. the entry that it came to. -/
def entryS (E:Eng A) (x:SV A) (sh:List (SO A)) (K:SV A→Prop):Prop:=match x with
 | .ptr it 0=>match nth sh it with
  | some (.miter (.ptr i _) _ seen last)=>match nth sh i with
   | some (.rmap kt vt es st c)=>if okMap E kt vt then last=c∧(∃ b,seen.getLast?=some b∧b∈st) ∧
     (∀ (j:Nat) (p:A kt×A vt) (b:Int),seen.getLast?=some b→es[j]?=some p→st[j]?=some b→match cellV E.P vt (E.C.enc vt p.2) with
      | some v=>K (.tup (.cell (.agg (E.C.enc kt p.1)) (.cell v .nil)))
      | none=>False) else False
   | _=>False
  | _=>False
 | _=>False
def builtinS (E:Eng A) (b:Builtin) (types:List TypeId) (args:List (SV A)) (sh:List (SO A)) (K:SV A→List (SO A)→Prop):Prop:=
 match b,types,args with
 | .len,[t],[x]=>match desc E.P t with
  | .slice _=>match x with
   | .val (.string _)=>False
   | x=>match lenS sh x with
    | some (n,l)=>if l then K (.lit .i64 n) sh else (n≤9223372036854775807→K (.int .i64 n) sh)
    | none=>False
  | .array n _=>K (.lit .i64 (n:Nat)) sh
  | .map _ _=>match x with
   | .ptr i _=>match nth sh i with
    | some (.smap _ _ es _)=>K (.int .i64 (es.length:Nat)) sh
    | some (.amap _ _ es)=>K (.int .i64 (es.length:Nat)) sh
    | some (.rmap _ _ es _ _)=>K (.int .i64 (es.length:Nat)) sh
    | _=>False
   | _=>False
  | _=>False
 | .append,[t,u],[s,x]=>if t=u then appendS E t s x sh K else appendZS E t u s x sh K
 | .cap,[t],[x]=>match desc E.P t with
  | .slice _=>match x with
   | .val (.slice none 0 0)=>K (.lit .i64 0) sh
   | _=>False
  | _=>False
 | .copy,[t,_],[d,s]=>copyS E t d s sh K
 | .min,_,[x,y]=>match asInt x,asInt y with
  | some (k,a,l),some (k',b,m)=>if k=k' then K (mkInt (l&&m) k (min a b)) sh else False
  | _,_=>False
 | .max,_,[x,y]=>match asInt x,asInt y with
  | some (k,a,l),some (k',b,m)=>if k=k' then K (mkInt (l&&m) k (max a b)) sh else False
  | _,_=>False
 | .delete,[t,_],[m,k]=>freshM m sh fun sh=>deleteS E t m k sh K
 | _,_,_=>False
def stepOp (E:Eng A) (o:Op) (ts:List (SV A)) (sh:List (SO A)) (K:SV A→List (SO A)→Prop):Prop:=
 match o with
 | .move x=>K (ev E ts x) sh
 | .assign x=>K (ev E ts x) sh
 | .pick c a b=>match evr E ts sh c with
  | .bl true=>K (evr E ts sh a) sh
  | .bl false=>K (evr E ts sh b) sh
  | .sb _ v=>match asBool (evr E ts sh a),asBool (evr E ts sh b) with
   | some x,some y=>K (.sb 0 (if v then x else y)) sh
   | _,_=>False
  | _=>False
 | .alloc t=>match tyZero E.P t with
  | some cs=>K (.ptr (cnt sh) 0) (snoc sh (.cells t cs))
  | none=>False
 | .box t x=>match toSL sh (evr E ts sh x) with
  | some cs=>K (.ptr (cnt sh) 0) (snoc sh (.cells t cs))
  | none=>False
 | .build t ps=>buildS E t (ps.toList.map fun p=>(p.1,evr E ts sh p.2)) sh fun v=>K v sh
 | .buildSlice t n ps=>buildSliceS E t n (ps.toList.map fun p=>(p.1,evr E ts sh p.2)) sh K
 | .load t a=>loadS E t (evr E ts sh a) sh fun v=>K v sh
 | .store t a v=>storeV E t (evr E ts sh a) (evr E ts sh v) sh fun sh'=>K .undef sh'
 | .sliceToArrayPointer t x=>s2apS E t (evr E ts sh x) sh fun v=>K v sh
 | .index t x i=>idxS E t (evr E ts sh x) (evr E ts sh i) fun v=>K v sh
 | .nilCheck x=>match evr E ts sh x with
  | .ptr i o=>if alive sh i then K (.ptr i o) sh else False
  | .aptr i o n j=>if alive sh i then K (.aptr i o n j) sh else False
  | .rptr cs o=>K (.rptr cs o) sh
  | .vptr i j s o=>if alive sh i then K (.vptr i j s o) sh else False
  | .fn (.func f) a b=>K (.fn (.func f) a b) sh
  | .iface t v=>K (.iface t v) sh
  | _=>False
 | .binOp op t x y _=>binS E op t (isConst x||isConst y) sh (evr E ts sh x) (evr E ts sh y) fun v=>K v sh
 | .unOp op _ x=>unS op (evr E ts sh x) fun v=>K v sh
 | .convert s d x=>if s=d then sameS E d (evr E ts sh x) sh K else convS E s d (evr E ts sh x) sh fun v=>K v sh
 | .makeInterface t x=>match desc E.P t with
  | .int _=>K (.iface t (evr E ts sh x)) sh
  | _=>False
 | .makeFunc f a b=>K (.fn f (mkL (a.toList.map (evr E ts sh))) (mkL (b.toList.map (evr E ts sh)))) sh
 | .slice t x lo hi mx=>sliceS E (evr E ts sh) t x lo hi mx sh K
 | .fieldAddr s x f=>fieldS E s (evr E ts sh x) sh f fun v=>K v sh
 | .field s x f=>fieldVS E s (evr E ts sh x) f fun v=>K v sh
 | .indexAddr t x i=>indexS E t (evr E ts sh x) (evr E ts sh i) sh fun v=>K v sh
 | .makeMap t r=>makeMapS E t r sh K
 | .lookup t m x ok=>freshM (evr E ts sh m) sh fun sh=>lookupS E t (evr E ts sh m) (evr E ts sh x) ok sh fun v=>K v sh
 | .mapUpdate t m k x=>freshM (evr E ts sh m) sh fun sh=>mapUpdateS E t (evr E ts sh m) (evr E ts sh k) (evr E ts sh x) sh K
 | .insert t m k x=>freshM (evr E ts sh m) sh fun sh=>mapUpdateS E t (evr E ts sh m) (evr E ts sh k) (evr E ts sh x) sh K
 | .mapEntry t m k=>freshM (evr E ts sh m) sh fun sh=>mapEntryS E t (evr E ts sh m) (evr E ts sh k) sh K
 | .entryStore t m s x=>freshM (evr E ts sh m) sh fun sh=>entryStoreS E t (evr E ts sh m) (evr E ts sh s) (evr E ts sh x) sh K
 | .range t x=>freshM (evr E ts sh x) sh fun sh=>rangeS E t (evr E ts sh x) sh K
 | .next x text=>nextS E (evr E ts sh x) text sh K
 | .entry x=>entryS E (evr E ts sh x) sh fun v=>K v sh
 | .extract x i=>match evr E ts sh x with
  | .tup vs=>match vs.one i with
   | some v=>K v sh
   | none=>False
  | _=>False
 | .call c=>match c.callee with
  | .value f=>match evr E ts sh f with
   | .fn (.func g) a b=>match unL a,unL b with
    | some xs,some ys=>E.TT g (xs++c.args.toList.map (evr E ts sh)++ys) sh K
    | _,_=>False
   | _=>False
  | .builtin b=>builtinS E b c.argTypes.toList (c.args.toList.map (evr E ts sh)) sh K
  | .invoke _ _=>False
 | _=>False
def setDst (ts:List (SV A)) (d:Option Tmp) (v:SV A):List (SV A):=match d with
 | some t=>setNth ts t v
 | none=>ts
/-- A truth that is new gets a name of its own. -/
def named (nid:Nat) (v:SV A):SV A:=match v with
 | .sb _ b => .sb nid b
 | v=>v
/-- A truth that is known from here on. -/
def know (id:Nat) (b:Bool):List (SV A)→List (SV A)
 | []=>[]
 | .sb i c::l=>(if i=id then SV.bl b else .sb i c)::know id b l
 | s::l=>s::know id b l
def guardOf (ops:List Oper) (ts:List (SV A)) (j:Nat):SV A:=match nth ops j with
 | some o=>match o.dst with
  | some d=>match nth ts d with
   | some s=>s
   | none => .junk
  | none => .junk
 | none => .junk
def runOp (E:Eng A) (o:Oper) (ts:List (SV A)) (sh:List (SO A)) (nid:Nat) (K:List (SV A)→List (SO A)→Nat→Prop):Prop:=
 match o.op with
 | .move x=>K (setDst ts o.dst (ev E ts x)) sh nid
 | .assign x=>K (setDst ts o.dst (ev E ts x)) sh nid
 | op=>stepOp E op ts sh fun v sh'=>K (setDst ts o.dst (named nid v)) sh' (nid+1)
def guarded (E:Eng A) (ops:List Oper) (o:Oper) (ts:List (SV A)) (sh:List (SO A)) (nid:Nat) (K:List (SV A)→List (SO A)→Nat→Prop):Prop:=
 match o.guard with
 | none=>runOp E o ts sh nid K
 | some (j,want)=>match guardOf ops ts j with
  | .undef=>K (setDst ts o.dst .undef) sh nid
  | .bl b=>if b=want then runOp E o ts sh nid K else K (setDst ts o.dst .undef) sh nid
  | .sb id b=>(b=true→if want then runOp E o (know id true ts) sh nid K else K (setDst (know id true ts) o.dst .undef) sh nid) ∧
    (b=false→if want then K (setDst (know id false ts) o.dst .undef) sh nid else runOp E o (know id false ts) sh nid K)
  | _=>False
def opsS (E:Eng A) (ops:List Oper):List Oper→List (SV A)→List (SO A)→Nat→(List (SV A)→List (SO A)→Nat→Prop)→Prop
 | [],ts,sh,nid,K=>K ts sh nid
 | o::rest,ts,sh,nid,K=>guarded E ops o ts sh nid fun ts' sh' nid'=>go ts' sh' nid' fun ts2 sh2 n2=>opsS E ops rest ts2 sh2 n2 K
def inL (x:Nat):List Nat→Bool
 | []=>false
 | y::l=>if x=y then true else inL x l
/-- May this one come up now? -/
def isReady (done:List Nat) (o:Oper):List Edge→Bool
 | []=>true
 | e::l=>if Region.binds .any e then (if inL e.on done then isReady done o l else false) else isReady done o l
def readyFrom (done:List Nat):Nat→List Oper→List Nat
 | _,[]=>[]
 | i,o::l=>if inL i done then readyFrom done (i+1) l else (if isReady done o o.after.toList then i::readyFrom done (i+1) l else readyFrom done (i+1) l)
/-- An operation that hangs on nothing but slots. -/
def isArr (P:Program) (t:TypeId):Bool:=match desc P t with
 | .array _ _=>true
 | _=>false
def regOnly (P:Program):Op→Bool
 | .slice t _ _ _ _=>isArr P t
 | .move _=>true
 | .assign _=>true
 | .pick _ _ _=>true
 | .binOp _ _ _ _ _=>true
 | .unOp _ _ _=>true
 | .convert s d _=>if s=d then false else (match desc P s with
  | .int _=>true
  | _=>false)
 | .makeInterface _ _=>true
 | .makeFunc _ _ _=>true
 | .fieldAddr _ _ _=>true
 | .field _ _ _=>true
 | .extract _ _=>true
 | .nilCheck _=>true
 | .indexAddr _ _ _=>true
 | .index _ _ _=>true
 | .sliceToArrayPointer _ _=>true
 | .call c=>match c.callee with
  | .builtin .len=>match c.argTypes.toList with
   | [t]=>match desc P t with
    | .map _ _=>false
    | _=>true
   | _=>true
  | _=>false
 | _=>false
def isLoad:Op→Bool
 | .load _ _=>true
 | _=>false
/-- Does it leave alone what was there? -/
def quietOp (E:Eng A):Op→Bool
 | .store _ _ _=>false
 | .convert s d _=>if s=d then false else true
 | .mapUpdate _ _ _ _=>false
 | .insert _ _ _ _=>false
 | .mapEntry _ _ _=>false
 | .entryStore _ _ _ _=>false
 | .range _ _=>false
 | .next _ _=>false
 | .call c=>match c.callee with
  | .value (.func f)=>E.qf f
  | .builtin .len=>true
  | .builtin .min=>true
  | .builtin .max=>true
  | _=>false
 | _=>true
/-- Does j wait for i, by however many steps? -/
def anyE (i:Nat) (rec:Nat→Bool):List Edge→Bool
 | []=>false
 | e::l=>if Region.binds .any e then (if e.on=i then true else (if rec e.on then true else anyE i rec l)) else anyE i rec l
def directly (i:Nat):List Edge→Bool
 | []=>false
 | e::l=>if Region.binds .any e then (if e.on=i then true else directly i l) else directly i l
def waits (ops:List Oper) (i:Nat):Nat→Nat→Bool
 | 0,_=>false
 | f+1,j=>match nth ops j with
  | some o=>if directly i o.after.toList then true else anyE i (waits ops i f) o.after.toList
  | none=>false
/-- Nobody that is to come writes this slot. -/
def unwritten (done:List Nat) (t:Nat):Nat→List Oper→Bool
 | _,[]=>true
 | k,o::l=>if inL k done then unwritten done t (k+1) l else (match o.dst with
  | some d=>if d=t then false else unwritten done t (k+1) l
  | none=>unwritten done t (k+1) l)
def isNilS:SV A→Bool
 | .val (.slice none 0 0)=>true
 | _=>false
/-- This operand is nil, and stays so. -/
def nilNow (ops:List Oper) (done:List Nat) (ts:List (SV A)):Operand→Bool
 | .tmp t=>match nth ts t with
  | some s=>if isNilS s then unwritten done t 0 ops else false
  | none=>false
 | .const (.slice none 0 0)=>true
 | _=>false
/-- The new variable that goes by this slot. -/
def allocOf (o:Oper):Option Nat:=match o.op with
 | .alloc _=>match o.guard with
  | none=>o.dst
  | some _=>none
 | _=>none
/-- Where the new variable comes up that this slot will hold, and nothing else. -/
def newAt (done:List Nat) (t:Nat):Nat→List Oper→Option Nat
 | _,[]=>none
 | k,o::l=>if inL k done then newAt done t (k+1) l else (match o.dst with
  | some d=>if d=t then (match allocOf o with
   | some _=>if unwritten done t (k+1) l then some k else none
   | none=>none) else newAt done t (k+1) l
  | none=>newAt done t (k+1) l)
/-- Does it leave alone what is there now? -/
def quietNow (E:Eng A) (ops:List Oper) (late:Bool) (done:List Nat) (ts:List (SV A)) (o:Oper):Bool:=
 if quietOp E o.op then true else (if E.nu then (match o.op with
  | .store _ x _=>if late then false else (match x with
   | .tmp t=>match nth ts t with
    | some _=>(match newAt done t 0 ops with
     | some k=>directly k o.after.toList
     | none=>false)
    | none=>false
   | _=>false)
  | .call c=>match c.callee with
   | .builtin .append=>match c.args.toList with
    | x::_=>nilNow ops done ts x
    | []=>false
   | _=>false
  | _=>false) else false)
/-- Every operation from the k-th on that is to come, and that may write, waits for i. -/
def allWait (E:Eng A) (ops:List Oper) (late:Bool) (done:List Nat) (ts:List (SV A)) (i:Nat):Nat→List Oper→Bool
 | _,[]=>true
 | k,o::l=>if inL k done then allWait E ops late done ts i (k+1) l else (if k=i then allWait E ops late done ts i (k+1) l else (if quietNow E ops late done ts o then allWait E ops late done ts i (k+1) l else (if waits ops i (cnt ops) k then allWait E ops late done ts i (k+1) l else false)))
/-- Every operation that is to come waits for i at once, or has no slot in common with it. -/
def allApart (ops:List Oper) (done:List Nat) (i:Nat) (oi:Oper):Nat→List Oper→Bool
 | _,[]=>true
 | k,o::l=>if inL k done then allApart ops done i oi (k+1) l else (if k=i then allApart ops done i oi (k+1) l else (if directly i o.after.toList then allApart ops done i oi (k+1) l else (if oi.apart ops.toArray o then allApart ops done i oi (k+1) l else false)))
def mayFirst (E:Eng A) (ops:List Oper) (late:Bool) (done:List Nat) (ts:List (SV A)) (i:Nat) (o:Oper):Bool:=
 if regOnly E.P o.op then allApart ops done i o 0 ops else (if isLoad o.op then (if allWait E ops late done ts i 0 ops then allApart ops done i o 0 ops else false) else false)
def firstEarly (E:Eng A) (ops:List Oper) (late:Bool) (done:List Nat) (ts:List (SV A)):List Nat→Option Nat
 | []=>none
 | i::l=>match nth ops i with
  | some o=>if mayFirst E ops late done ts i o then some i else firstEarly E ops late done ts l
  | none=>firstEarly E ops late done ts l
/-- All that is to come is so. -/
def allP (done:List Nat) (f:Nat→Oper→Bool):Nat→List Oper→Bool
 | _,[]=>true
 | k,o::l=>if inL k done then allP done f (k+1) l else (if f k o then allP done f (k+1) l else false)
def isAlloc:Op→Bool
 | .alloc _=>true
 | _=>false
def junkAt (ts:List (SV A)) (d:Nat):Bool:=match nth ts d with
 | some .junk=>true
 | _=>false
def dstIs (o:Oper) (d:Nat):Bool:=match o.dst with
 | some d'=>if d'=d then true else false
 | none=>false
/-- New variables may come up behind all else: what waits for one waits for all else that does not. -/
def lateAt (E:Eng A) (ops:List Oper) (done:List Nat) (ts:List (SV A)):Bool:=
 allP done (fun i oi=>match oi.op with
  | .alloc t=>(match tyZero (A:=A) E.P t with
   | some _=>(match allocOf oi with
    | some d=>if junkAt ts d then allP done (fun j oj=>if j=i then true else (if dstIs oj d then false else (if directly i oj.after.toList then
      allP done (fun k _=>if k=i then true else (if k=j then true else (if waits ops i (cnt ops) k then true else waits ops k (cnt ops) j))) 0 ops else true))) 0 ops else false
    | none=>false)
   | none=>false)
  | _=>true) 0 ops
def allocAt (ops:List Oper) (i:Nat):Bool:=match nth ops i with
 | some o=>isAlloc o.op
 | none=>false
def someAlloc (ops:List Oper):List Nat→Bool
 | []=>false
 | i::l=>if allocAt ops i then true else someAlloc ops l
def noAllocs (ops:List Oper):List Nat→List Nat
 | []=>[]
 | i::l=>if allocAt ops i then noAllocs ops l else i::noAllocs ops l
def allOf (f:Nat→Prop):List Nat→Prop
 | []=>True
 | [i]=>f i
 | i::l=>f i∧allOf f l
/-- Which of those that are ready are to be looked at, and whether new variables may be late. -/
def picks (E:Eng A) (ops:List Oper) (late:Bool) (done:List Nat) (ts:List (SV A)) (rs:List Nat):Option (Bool×List Nat):=
 if E.nu then (if someAlloc ops rs then (if lateAt E ops done ts then (match noAllocs ops rs with
  | []=>match rs with
   | []=>none
   | i::_=>some (true,[i])
  | na=>some (true,na)) else (if late then none else some (false,rs))) else some (late,rs)) else some (late,rs)
def drawS (E:Eng A) (ops:List Oper):Nat→Bool→List Nat→List (SV A)→List (SO A)→Nat→(List (SV A)→List (SO A)→Nat→Prop)→Prop
 | 0,_,done,ts,sh,nid,K=>match readyFrom done 0 ops with
  | []=>K ts sh nid
  | _=>False
 | f+1,late,done,ts,sh,nid,K=>
  match readyFrom done 0 ops with
  | []=>False
  | rs=>match firstEarly E ops late done ts rs with
   | some i=>match nth ops i with
    | some o=>guarded E ops o ts sh nid fun ts' sh' nid'=>go ts' sh' nid' fun ts2 sh2 n2=>drawS E ops f late (i::done) ts2 sh2 n2 K
    | none=>False
   | none=>match picks E ops late done ts rs with
    | some (late',qs)=>allOf (fun i=>match nth ops i with
     | some o=>guarded E ops o ts sh nid fun ts' sh' nid'=>go ts' sh' nid' fun ts2 sh2 n2=>drawS E ops f late' (i::done) ts2 sh2 n2 K
     | none=>False) qs
    | none=>False
def noSel:List Oper→Bool
 | []=>true
 | o::l=>match o.op with
  | .select _ _=>false
  | _=>noSel l
def firstReg:Code→Nat
 | .region id _ _=>id+1
 | .seq a b=>match firstReg a with
  | 0=>firstReg b
  | n=>n
 | .cond _ a b=>match firstReg a with
  | 0=>firstReg b
  | n=>n
 | .block _ c=>firstReg c
 | .loop c=>firstReg c
 | _=>0
def dsts:List Oper→List Nat
 | []=>[]
 | o::l=>match o.dst with
  | some d=>d::dsts l
  | none=>dsts l
def written:Code→List Nat
 | .region _ ops _=>dsts ops.toList
 | .seq a b=>written a++written b
 | .cond _ a b=>written a++written b
 | .block _ c=>written c
 | .loop c=>written c
 | _=>[]
def junkAll (ts:List (SV A)):List Nat→List (SV A)
 | []=>ts
 | t::l=>junkAll (setNth ts t .junk) l
def laySlots (nid:Nat) (ts:List (SV A)):List (Nat×SV A)→List (SV A)
 | []=>ts
 | (t,v)::l=>laySlots (nid+1) (setNth ts t (named nid v)) l
def layHeap (sh:List (SO A)):List (Nat×SO A)→List (SO A)
 | []=>sh
 | (i,o)::l=>layHeap (setNth sh i o) l
mutual
/-- Does it speak of the first n entries alone? -/
def belowV (n:Nat):SV A→Bool
 | .ptr i _=>if i<n then true else false
 | .aptr i _ _ _=>if i<n then true else false
 | .asl i _ _=>if i<n then true else false
 | .vec i=>if i<n then true else false
 | .vptr i _ _ _=>if i<n then true else false
 | .rptr cs _=>belowL n cs
 | .iface _ v=>belowV n v
 | .fn _ a b=>if belowL n a then belowL n b else false
 | .agg cs=>belowL n cs
 | .tup cs=>belowL n cs
 | _=>true
def belowL (n:Nat):SL A→Bool
 | .nil=>true
 | .cell v r=>if belowV n v then belowL n r else false
 | .run _ _ _ r=>belowL n r
end
def belowO (n:Nat):SO A→Bool
 | .cells _ cs=>belowL n cs
 | .fr v=>belowV n v
 | .miter v _ _ _=>belowV n v
 | _=>true
def belowOs (n:Nat):List (SO A)→Bool
 | []=>true
 | o::l=>if belowO n o then belowOs n l else false
mutual
/-- Entries behind the first n, by what stands for them. -/
def sub (n:Nat) (σ:List (SV A)):SV A→SV A
 | .vec i=>if i<n then .vec i else (match nth σ (i-n) with
  | some s=>s
  | none => .undef)
 | .ptr i o=>if i<n then .ptr i o else (match nth σ (i-n) with
  | some (.ptr j 0) => .ptr j o
  | _ => .undef)
 | .rptr cs o => .rptr (subL n σ cs) o
 | .iface t v => .iface t (sub n σ v)
 | .fn g a b => .fn g (subL n σ a) (subL n σ b)
 | .agg cs => .agg (subL n σ cs)
 | .tup cs => .tup (subL n σ cs)
 | s=>s
def subL (n:Nat) (σ:List (SV A)):SL A→SL A
 | .nil => .nil
 | .cell v r => .cell (sub n σ v) (subL n σ r)
 | .run k m xs r => .run k m xs (subL n σ r)
end
def subO (n:Nat) (σ:List (SV A)):SO A→SO A
 | .cells e cs => .cells e (subL n σ cs)
 | .fr s => .fr (sub n σ s)
 | .miter v s a c => .miter (sub n σ v) s a c
 | o=>o
def vecSrc (σ:List (SV A)) (k:Nat):Bool:=match nth σ k with
 | some (.vec _)=>true
 | some (.val (.slice none 0 0))=>true
 | _=>false
def ptrSrc (σ:List (SV A)) (k:Nat):Bool:=match nth σ k with
 | some (.ptr _ 0)=>true
 | _=>false
mutual
/-- Does it speak of the first n entries, and of those behind them that stand for something, alone? -/
def okV (n:Nat) (σ:List (SV A)):SV A→Bool
 | .ptr i _=>if i<n then true else ptrSrc σ (i-n)
 | .aptr i _ _ _=>if i<n then true else false
 | .asl i _ _=>if i<n then true else false
 | .vec i=>if i<n then true else vecSrc σ (i-n)
 | .vptr i _ _ _=>if i<n then true else false
 | .rptr cs _=>okL n σ cs
 | .iface _ v=>okV n σ v
 | .fn _ a b=>if okL n σ a then okL n σ b else false
 | .agg cs=>okL n σ cs
 | .tup cs=>okL n σ cs
 | _=>true
def okL (n:Nat) (σ:List (SV A)):SL A→Bool
 | .nil=>true
 | .cell v r=>if okV n σ v then okL n σ r else false
 | .run _ _ _ r=>okL n σ r
end
def okO (n:Nat) (σ:List (SV A)):SO A→Bool
 | .cells _ cs=>okL n σ cs
 | .fr v=>okV n σ v
 | .miter v _ _ _=>okV n σ v
 | _=>true
def okOs (n:Nat) (σ:List (SV A)):List (SO A)→Bool
 | []=>true
 | o::l=>if okO n σ o then okOs n σ l else false
def okSlots (n:Nat) (σ:List (SV A)):List (Nat×SV A)→Bool
 | []=>true
 | (_,v)::l=>if okV n σ v then okSlots n σ l else false
def joinL {α:Type _}:List α→List α→List α
 | [],m=>m
 | x::l,m=>x::joinL l m
def find1 (n:Nat):SV A→SV A→List (Nat×SV A)
 | .vec i,h=>if i<n then [] else [(i-n,h)]
 | .ptr i _,.ptr j _=>if i<n then [] else [(i-n,.ptr j 0)]
 | _,_=>[]
def findL (n:Nat):SL A→SL A→List (Nat×SV A)
 | .cell a r,.cell b s=>joinL (find1 n a b) (findL n r s)
 | .run _ _ _ r,.run _ _ _ s=>findL n r s
 | _,_=>[]
def findV (n:Nat):SV A→SV A→List (Nat×SV A)
 | .agg a,.agg b=>findL n a b
 | .tup a,.tup b=>findL n a b
 | .fn _ a b,.fn _ c d=>joinL (findL n a c) (findL n b d)
 | a,b=>find1 n a b
def rslV (sh:List (SO A)):SV A→SV A
 | .agg cs => .agg (rslL sh cs)
 | .fn f a b => .fn f (rslL sh a) (rslL sh b)
 | s=>rsl sh s
def rslO (sh:List (SO A)):SO A→SO A
 | .cells e cs => .cells e (rslL sh cs)
 | o=>o
def findSlots (n:Nat) (ts:List (SV A)) (sh:List (SO A)):List (Nat×SV A)→List (Nat×SV A)
 | []=>[]
 | (t,v)::l=>match nth ts t with
  | some s=>joinL (findV n v (rslV sh s)) (findSlots n ts sh l)
  | none=>findSlots n ts sh l
def findOs (n:Nat) (sh:List (SO A)):List (SO A)→List (SO A)→List (Nat×SV A)
 | .cells _ a::r,.cells _ b::s=>joinL (findL n a (rslL sh b)) (findOs n sh r s)
 | _::r,_::s=>findOs n sh r s
 | _,_=>[]
def getA (k:Nat):List (Nat×SV A)→Option (SV A)
 | []=>none
 | (i,s)::l=>if i=k then some s else getA k l
/-- What the entries that are found speak of. -/
def findM (n:Nat) (sh:List (SO A)) (al:List (Nat×SV A)):Nat→List (SO A)→List (Nat×SV A)
 | _,[]=>[]
 | k,.cells _ cs::M=>joinL (match getA k al with
  | some (.ptr j _)=>match nth sh j with
   | some (.cells _ ds)=>findL n cs (rslL sh ds)
   | _=>[]
  | _=>[]) (findM n sh al (k+1) M)
 | k,_::M=>findM n sh al (k+1) M
def closeM (n:Nat) (sh M:List (SO A)) (al:List (Nat×SV A)):List (Nat×SV A):=joinL al (findM n sh al 0 M)
def srcs (al:List (Nat×SV A)):Nat→Nat→Option (List (SV A))
 | _,0=>some []
 | k,m+1=>match getA k al,srcs al (k+1) m with
  | some s,some l=>some (s::l)
  | _,_=>none
def isDead (P:List (SO A)) (j:Nat):Bool:=match nth P j with
 | some .dead=>true
 | some _=>false
 | none=>true
def memN (j:Nat):List Nat→Bool
 | []=>false
 | i::l=>if i=j then true else memN j l
def distinct (P:List (SO A)):List (SV A)→List Nat→Bool
 | [],_=>true
 | .vec j::l,seen=>if isDead P j then (if memN j seen then false else distinct P l (j::seen)) else false
 | .ptr j 0::l,seen=>if isDead P j then (if memN j seen then false else distinct P l (j::seen)) else false
 | .val (.slice none 0 0)::l,seen=>distinct P l seen
 | _,_=>false
def more1 (n:Nat) (σ:List (SV A)) (sh:List (SO A)):SO A→SV A→Prop
 | .ivec e k xs,.vec j=>match nth sh j with
  | some o=>eqo (.ivec e k xs) o
  | none=>False
 | .svec e xs,.vec j=>match nth sh j with
  | some o=>eqo (.svec e xs) o
  | none=>False
 | .cells e cs,.ptr j _=>match nth sh j with
  | some o=>eqo (.cells e (subL n σ cs)) (rslO sh o)
  | none=>False
 | .smap kt vt es st,.ptr j _=>match nth sh j with
  | some o=>eqo (.smap kt vt es st) o
  | none=>False
 | .amap kt vt es,.ptr j _=>match nth sh j with
  | some o=>eqo (.amap kt vt es) o
  | none=>False
 | .ivec _ _ xs,.val (.slice none 0 0)=>xs=[]
 | .svec _ xs,.val (.slice none 0 0)=>xs=[]
 | _,_=>False
def moreIs (n:Nat) (σ:List (SV A)) (sh:List (SO A)):List (SO A)→List (SV A)→Prop
 | [],[]=>True
 | a::M,s::l=>more1 n σ sh a s∧moreIs n σ sh M l
 | _,_=>False
def preIs (n:Nat) (σ:List (SV A)) (sh:List (SO A)):List (SO A)→List (SO A)→Prop
 | [],_=>True
 | .dead::r,_::s=>preIs n σ sh r s
 | a::r,b::s=>eqo (subO n σ a) (rslO sh b)∧preIs n σ sh r s
 | _,_=>False
def slotIs (n:Nat) (σ:List (SV A)) (ts:List (SV A)) (sh:List (SO A)) (t:Nat) (v:SV A):Prop:=match nth ts t with
 | some s=>eqv (sub n σ v) (rslV sh s)
 | none=>False
def slotsAre (n:Nat) (σ:List (SV A)) (ts:List (SV A)) (sh:List (SO A)):List (Nat×SV A)→Prop
 | []=>True
 | [(t,v)]=>slotIs n σ ts sh t v
 | (t,v)::l=>slotIs n σ ts sh t v∧slotsAre n σ ts sh l
/-- What is in these slots and this heap is what is wanted there: the first entries where they are, vectors behind them wherever they are. -/
def arrS (P M:List (SO A)) (slots:List (Nat×SV A)) (ts:List (SV A)) (sh:List (SO A)):Prop:=
 match srcs (closeM (cnt P) sh M (closeM (cnt P) sh M (joinL (findSlots (cnt P) ts sh slots) (findOs (cnt P) sh P sh)))) 0 (cnt M) with
 | some σ=>if okOs (cnt P) σ P then (if okOs (cnt P) σ M then (if okSlots (cnt P) σ slots then (if distinct P σ [] then
   slotsAre (cnt P) σ ts sh slots∧preIs (cnt P) σ sh P sh∧moreIs (cnt P) σ sh M σ else False) else False) else False) else False
 | none=>False
def wantsRead:SV A→Bool
 | .rints _ _=>true
 | .rseq _ _=>true
 | _=>false
/-- Vectors that are wanted for reading alone are let go. -/
def freeSlots:List (Nat×SV A)→List (SV A)→List (SO A)→List (SV A)×List (SO A)
 | [],ts,sh=>(ts,sh)
 | (t,v)::l,ts,sh=>if wantsRead v then (match nth ts t with
  | some s=>match letGo sh s with
   | some (s',sh')=>freeSlots l (setNth ts t s') sh'
   | none=>freeSlots l ts sh
  | none=>freeSlots l ts sh) else freeSlots l ts sh
def arrF (P M:List (SO A)) (slots:List (Nat×SV A)) (ts:List (SV A)) (sh:List (SO A)):Prop:=match freeSlots slots ts sh with
 | (ts',sh')=>arrS P M slots ts' sh'
def codeS (E:Eng A) (ann:Anns A):Code→Post A→List (SV A)→List (SO A)→Nat→Prop
 | .skip,Q,ts,sh,nid=>Q .normal ts sh nid
 | .region _ ops false,Q,ts,sh,nid=>go ts sh nid fun ts sh nid=>opsS E ops.toList ops.toList ts sh nid (Q .normal)
 | .region _ ops true,Q,ts,sh,nid=>if noSel ops.toList then go ts sh nid fun ts sh nid=>drawS E ops.toList (cnt ops.toList) false [] ts sh nid (Q .normal) else False
 | .seq a b,Q,ts,sh,nid=>codeS E ann a (fun e ts' sh' nid'=>match e with
  | .normal=>codeS E ann b Q ts' sh' nid'
  | e=>Q e ts' sh' nid') ts sh nid
 | .cond c a b,Q,ts,sh,nid=>match ev E ts c with
  | .bl true=>codeS E ann a Q ts sh nid
  | .bl false=>codeS E ann b Q ts sh nid
  | .sb id v=>(v=true→codeS E ann a Q (know id true ts) sh nid)∧(v=false→codeS E ann b Q (know id false ts) sh nid)
  | _=>False
 | .block id c,Q,ts,sh,nid=>codeS E ann c (fun e ts' sh' nid'=>match e with
  | .exit i=>if i=id then Q .normal ts' sh' nid' else Q (.exit i) ts' sh' nid'
  | e=>Q e ts' sh' nid') ts sh nid
 | .loop c,Q,ts,sh,nid=>match ann (firstReg c) ts sh with
  | none=>False
  | some L=>(∃ x,L.inv x∧arrF (layHeap sh (L.heap x)) (L.more x) (L.slots x) ts sh) ∧
   ∀ x,L.inv x→codeS E ann c (fun e ts' sh' nid'=>match e with
    | .normal=>∃ y,L.inv y∧L.meas y<L.meas x∧arrF (layHeap sh (L.heap y)) (L.more y) (L.slots y) ts' sh'
    | e=>Q e ts' sh' nid') (laySlots nid (junkAll ts (written c)) (L.slots x)) (joinL (layHeap sh (L.heap x)) (L.more x)) (nid+cnt (L.slots x))
 | .exit id,Q,ts,sh,nid=>Q (.exit id) ts sh nid
 | .ret,Q,ts,sh,nid=>Q .ret ts sh nid
 | _,_,_,_,_=>False
/-- What a function hands back. -/
def resS (E:Eng A) (ts:List (SV A)) (sh:List (SO A)):List ResultVar→(List (SV A)→Prop)→Prop
 | [],K=>K []
 | .tmp t::l,K=>match nth ts t with
  | some s=>resS E ts sh l fun r=>K (s::r)
  | none=>False
 | .cell p ty::l,K=>loadS E ty (evr E ts sh (.tmp p)) sh fun s=>resS E ts sh l fun r=>K (s::r)
def resV:List (SV A)→SV A
 | [s]=>s
 | l => .tup (mkL l)
/-- A contract over a heap of its own. -/
structure LS (A:Nat→Type) where
 X:Type
 pre:X→Prop
 args:X→List (SV A)
 hin:X→List (SO A)
 res:X→List (SV A)
 hout:X→List (SO A)
def nameAll (n:Nat):List (SV A)→List (SV A)
 | []=>[]
 | v::l=>named n v::nameAll (n+1) l
def padJ:Nat→List (SV A)
 | 0=>[]
 | n+1 => .junk::padJ n
def isRef:SV A→Bool
 | .vec _=>true
 | .ptr _ _=>true
 | _=>false
def hasRef:SL A→Bool
 | .nil=>false
 | .cell v r=>if isRef v then true else hasRef r
 | .run _ _ _ r=>hasRef r
def endL (sh:List (SO A)):SL A→SL A→Option (SL A×List (SO A))
 | .cell w r,.cell h s=>match (if isRef w then some (h,sh) else letGo sh h) with
  | some (h',sh1)=>match endL sh1 r s with
   | some (s',sh2)=>some (.cell h' s',sh2)
   | none=>none
  | none=>none
 | .run _ _ _ r,.run k n xs s=>match endL sh r s with
  | some (s',sh2)=>some (.run k n xs s',sh2)
  | none=>none
 | _,cs=>letGoL sh cs
/-- Vectors are let go for what is to be read alone. -/
def end1 (sh:List (SO A)) (want have_:SV A):Option (SV A×List (SO A)):=match want with
 | .vec _=>some (have_,sh)
 | .ptr _ _=>some (have_,sh)
 | .agg ws=>if hasRef ws then (match have_ with
  | .agg cs=>match endL sh ws cs with
   | some (cs',sh')=>some (.agg cs',sh')
   | none=>none
  | _=>none) else letGoV sh have_
 | _=>letGoV sh have_
def endS (sh:List (SO A)):List (SV A)→List (SV A)→Option (List (SV A)×List (SO A))
 | [],[]=>some ([],sh)
 | w::r,h::s=>match end1 sh w h with
  | some (v,sh1)=>match endS sh1 r s with
   | some (l,sh2)=>some (v::l,sh2)
   | none=>none
  | none=>none
 | _,_=>none
def slotsFrom (n:Nat):List (SV A)→List (Nat×SV A)
 | []=>[]
 | v::l=>(n,v)::slotsFrom (n+1) l
def takeN {α:Type _}:Nat→List α→List α
 | 0,_=>[]
 | _+1,[]=>[]
 | n+1,x::l=>x::takeN n l
def dropN {α:Type _}:Nat→List α→List α
 | 0,l=>l
 | _+1,[]=>[]
 | n+1,_::l=>dropN n l
def fnS (E:Eng A) (f:Func) (body:Code) (L:LS A) (ann:L.X→Anns A):Prop:=
 ∀ x,L.pre x→codeS E (ann x) body (fun e ts sh _=>match e with
  | .exit _=>False
  | _=>resS E ts sh f.results.toList fun l=>match endS sh (L.res x) l with
   | some (l',sh')=>arrS (takeN (cnt (L.hin x)) (L.hout x)) (dropN (cnt (L.hin x)) (L.hout x)) (slotsFrom 0 (L.res x)) l' sh'
   | none=>False) (nameAll 0 (L.args x)++padJ (f.ntmps-(cnt (L.args x)))) (L.hin x) (cnt (L.args x))
end Go.Eng

/-! What the engine's words mean in memory: heaps, frames, calls; and small laws of them. Conditions: none. -/
namespace Go.Eng
open Go
variable {A:Nat→Type}
theorem nth_eq {α:Type _}:∀ (l:List α) (i:Nat),nth l i=l[i]?
 | [],_=>by simp [nth]
 | _::_,0=>by simp [nth]
 | _::l,n+1=>by simp [nth,nth_eq l n]
theorem setNth_eq {α:Type _}:∀ (l:List α) (i:Nat) (y:α),setNth l i y=l.set i y
 | [],_,_=>by simp [setNth]
 | _::_,0,_=>by simp [setNth]
 | _::l,n+1,y=>by simp [setNth,setNth_eq l n y]
theorem snoc_eq {α:Type _}:∀ (l:List α) (y:α),snoc l y=l++[y]
 | [],_=>rfl
 | x::l,y=>by simp [snoc,snoc_eq l y]
theorem cnt_eq {α:Type _}:∀ (l:List α),cnt l=l.length
 | []=>rfl
 | _::l=>by simp [cnt,cnt_eq l]
section
variable (O:Nat→Prop) (env:List Wit) (w:World) (C:Enc A)
/-- A value of a map. -/
def ValR (vt:Nat) (z:A vt) (v:Value):Prop:=if C.agg vt=true then ∃ us:List Value,v = .agg us.toArray∧RepL O env w C (C.enc vt z) us else RepL O env w C (C.enc vt z) [v]
/-- A map, as it lies in memory. -/
def MapR (kt vt:Nat) (es:List (A kt×A vt)) (st:List Int) (b:Nat):Prop:=
 ∃ (ms:List MapEntry) (clock:Nat),w.heap[b]?=some (.map ms.toArray clock)∧ms.length=es.length∧st=ms.map (fun m=>((m.born:Nat):Int))∧st.Nodup∧(∀ m∈ms,m.born<clock) ∧
  ∀ (j:Nat) p m,es[j]?=some p→ms[j]?=some m→(∃ us:List Value,m.key = .agg us.toArray∧RepL O env w C (C.enc kt p.1) us)∧ValR O env w C vt p.2 m.val
/-- .. and its clock is known. -/
def MapRC (kt vt:Nat) (es:List (A kt×A vt)) (st:List Int) (clock:Nat) (b:Nat):Prop:=
 ∃ (ms:List MapEntry),w.heap[b]?=some (.map ms.toArray clock)∧ms.length=es.length∧st=ms.map (fun m=>((m.born:Nat):Int))∧st.Nodup∧(∀ m∈ms,m.born<clock) ∧
  ∀ (j:Nat) p m,es[j]?=some p→ms[j]?=some m→(∃ us:List Value,m.key = .agg us.toArray∧RepL O env w C (C.enc kt p.1) us)∧ValR O env w C vt p.2 m.val
/-- An object of the heap, as it lies in memory. -/
def ORep:SO A→Wit→Prop
 | .dead,x=>x = .dead
 | .cells e cs,.blk b=>∃ vs:List Value,w.heap[b]?=some (.cells vs.toArray e (0,0))∧RepL O env w C cs vs
 | .ivec e k xs,.sl v=>w.ownsRow 0 e 1 v xs.length (xs.map (Value.int k))
 | .svec e xs,.sl v=>∃ vs:List Value,w.ownsRow 0 e (C.size e) v xs.length vs ∧
   ∀ (j:Nat) (x:A e),xs[j]?=some x→RepL O env w C (C.enc e x) ((vs.drop (j*C.size e)).take (C.size e))
 | .fr s,.ro v=>Rep O env w C s v
 | .amap kt vt es,.mb b=>∃ st,MapR O env w C kt vt es st b
 | .rmap kt vt es st c,.mb b=>MapRC O env w C kt vt es st c b
 | .miter m since seen last,.blk b=>∃ (bm:Nat) (sn:List Nat),w.heap[b]?=some (.mapIter (some bm) since sn.toArray last)∧seen=sn.map (fun x=>((x:Nat):Int))∧Rep O env w C m (.map (some bm))
 | .smap kt vt es st,.mb b=>MapR O env w C kt vt es st b
 | _,_=>False
structure HR (sh:List (SO A)):Prop where
 len:sh.length=env.length
 rep:∀ (i:Nat) so x,sh[i]?=some so→env[i]?=some x→ORep O env w C so x
 disj:∀ (i j:Nat) x y b,env[i]?=some x→env[j]?=some y→x.owns b→y.owns b→i=j
 out:∀ b,owned env b→¬O b
 lt:∀ b,owned env b→b<w.heap.size
 olt:∀ b,O b→b<w.heap.size
end
section
variable {O O':Nat→Prop} {env env':List Wit} {w w':World} {C:Enc A}
theorem ValR.imp {vt:Nat} {z:A vt} {v:Value} (h:ValR O env w C vt z v) (hr:∀ us,RepL O env w C (C.enc vt z) us→RepL O' env' w' C (C.enc vt z) us):ValR O' env' w' C vt z v:=by
 unfold ValR at *
 split at h
 ·rename_i hg; rw [if_pos hg]; obtain ⟨us,h1,h2⟩:=h; exact ⟨us,h1,hr _ h2⟩
 ·rename_i hg; rw [if_neg hg]; exact hr _ h
theorem MapR.imp {kt vt:Nat} {es:List (A kt×A vt)} {st:List Int} {b:Nat} (h:MapR O env w C kt vt es st b) (hb:w'.heap[b]?=w.heap[b]?) (hr:∀ t y us,RepL O env w C (C.enc t y) us→RepL O' env' w' C (C.enc t y) us):MapR O' env' w' C kt vt es st b:=by
 obtain ⟨ms,clock,h1,h2,h3,h4,h5,h6⟩:=h
 refine ⟨ms,clock,hb.trans h1,h2,h3,h4,h5,fun j p m hp hm=>?_⟩
 obtain ⟨⟨us,h7,h8⟩,h9⟩:=h6 j p m hp hm
 exact ⟨⟨us,h7,hr _ _ _ h8⟩,h9.imp (hr _ _)⟩
theorem MapRC.imp {kt vt:Nat} {es:List (A kt×A vt)} {st:List Int} {c b:Nat} (h:MapRC O env w C kt vt es st c b) (hb:w'.heap[b]?=w.heap[b]?) (hr:∀ t y us,RepL O env w C (C.enc t y) us→RepL O' env' w' C (C.enc t y) us):MapRC O' env' w' C kt vt es st c b:=by
 obtain ⟨ms,h1,h2,h3,h4,h5,h6⟩:=h
 refine ⟨ms,hb.trans h1,h2,h3,h4,h5,fun j p m hp hm=>?_⟩
 obtain ⟨⟨us,h7,h8⟩,h9⟩:=h6 j p m hp hm
 exact ⟨⟨us,h7,hr _ _ _ h8⟩,h9.imp (hr _ _)⟩
theorem MapRC.toR {kt vt:Nat} {es:List (A kt×A vt)} {st:List Int} {c b:Nat} (h:MapRC O env w C kt vt es st c b):MapR O env w C kt vt es st b:=by
 obtain ⟨ms,h⟩:=h
 exact ⟨ms,c,h⟩
end
def Glob (GL:Nat→Option (SL A)) (O:Nat→Prop) (env:List Wit) (w:World) (C:Enc A):Prop:=
 ∀ g cs,GL g=some cs→Rep O env w C (.rptr cs 0) (.pointer (some ⟨g,0,none⟩))
structure Rel (E:Eng A) (O:Nat→Prop) (ts:List (SV A)) (sh:List (SO A)) (env:List Wit) (a:Act) (w:World):Prop where
 defers:a.defers=[]
 tsz:a.tmps.size=ts.length
 tmps:∀ (t:Nat) s,ts[t]?=some s→∃ v,a.tmps[t]?=some v∧Rep O env w E.C s v
 heap:HR O env w E.C sh
 glob:Glob E.GL O env w E.C
/-- A call, as an operation meets it. -/
def CallR (P:Program) (f:FuncId) (vs:Array Value) (w:World) (R:Value→World→Prop):Prop:=
 ∀ (o:Oper) (a:Act) (next:Act→World→Prop) (Q:Exit→Act→World→Prop),
  (∀ v w',R v w'→next (a.put o.dst v) w')→o.upon P a next Q ((callFunc f vs).run P w)
/-- What a call leaves. -/
def Left (O:Nat→Prop) (C:Enc A) (q:Bool) (env:List Wit) (w:World) (K:Pred A) (v:Value) (w':World):Prop:=
 ∃ s sh' env',Rep O env' w' C s v∧HR O env' w' C sh'∧Step env w env' w'∧(q=true→w.heap.size≤w'.heap.size∧∀ b,b<w.heap.size→w'.heap[b]?=w.heap[b]?)∧K s sh'
def ArgsR (O:Nat→Prop) (env:List Wit) (w:World) (C:Enc A):List (SV A)→List Value→Prop
 | [],vs=>vs=[]
 | s::l,vs=>∃ u us,vs=u::us∧Rep O env w C s u∧ArgsR O env w C l us
/-- A function meets what the engine takes of it. -/
def Meets (P:Program) (C:Enc A) (GL:Nat→Option (SL A)) (q:Bool) (f:FuncId) (T:SpecT A):Prop:=
 ∀ args sh K,T args sh K→∀ O env w vs,ArgsR O env w C args vs→HR O env w C sh→Glob GL O env w C →
  CallR P f vs.toArray w (Left O C q env w K)
def exOf:Exit→Option Ex
 | .normal=>some .normal
 | .exit id=>some (.exit id)
 | .ret=>some .ret
 | _=>none
theorem Glob.step {GL:Nat→Option (SL A)} {O:Nat→Prop} {env env':List Wit} {w w':World} {C:Enc A} (hs:Step env w env' w') (h:Glob GL O env w C):Glob GL O env' w' C:=
 fun g cs hg=>(h g cs hg).step hs
section
variable {E:Eng A} {O:Nat→Prop} {ts:List (SV A)} {sh:List (SO A)} {env:List Wit} {a:Act} {w:World}
theorem rep_ofConst (v:Value):Rep O env w E.C (ofConst v) v:=by
 cases v<;>constructor
theorem ev_rep (h:Rel E O ts sh env a w) (x:Operand):Rep O env w E.C (ev E ts x) (a.eval x):=by
 cases x with
 | tmp t=>
  simp only [ev,nth_eq]
  cases hs:ts[t]? with
  | none=>exact .junk
  | some s=>
   obtain ⟨v,hv,hr⟩:=h.tmps t s hs
   simp only [Act.eval,Array.getD_eq_getD_getElem?,hv,Option.getD_some]
   exact hr
 | const v=>exact rep_ofConst v
 | global g=>
  simp only [ev]
  cases hg:E.GL g with
  | none=>exact .junk
  | some cs=>exact h.glob g cs hg
 | func f=>exact .fn [] [] .nil .nil
theorem rep_rsl {O:Nat→Prop} {env:List Wit} {w:World} {C:Enc A} {sh:List (SO A)} (h:HR O env w C sh) {s:SV A} {v:Value} (hr:Rep O env w C s v):Rep O env w C (rsl sh s) v:=by
 unfold rsl
 split
 ·rename_i i
  split
  ·rename_i s hs
   rw [nth_eq] at hs
   obtain ⟨x,hx⟩:∃ x,env[i]?=some x:=by
    have h1:=(List.getElem?_eq_some_iff.1 hs).1
    rw [h.len] at h1
    exact ⟨_,List.getElem?_eq_getElem h1⟩
   have ho:=h.rep i _ x hs hx
   cases x with
   | ro u=>
    cases hr with
    | vec h2=>
     simp only [slAt,hx] at h2
     subst h2
     exact ho
   | mb b=>cases ho
   | dead=>cases ho
   | sl v=>cases ho
   | blk b=>cases ho
  ·exact hr
 ·exact hr
theorem rep_rslL {O:Nat→Prop} {env:List Wit} {w:World} {C:Enc A} {sh:List (SO A)} (h:HR O env w C sh):∀ {cs:SL A} {vs:List Value},RepL O env w C cs vs→RepL O env w C (rslL sh cs) vs
 | _,_,.nil => .nil
 | _,_,.cell h1 h2 => .cell (rep_rsl h h1) (rep_rslL h h2)
 | _,_,.run h1 h2 => .run h1 (rep_rslL h h2)
theorem evr_rep (h:Rel E O ts sh env a w) (x:Operand):Rep O env w E.C (evr E ts sh x) (a.eval x):=rep_rsl h.heap (ev_rep h x)
theorem rel_put {ts:List (SV A)} {sh sh':List (SO A)} {env env':List Wit} {a:Act} {w w':World} (h:Rel E O ts sh env a w) (hs:Step env w env' w') (hh:HR O env' w' E.C sh')
  {s:SV A} {v:Value} (hr:Rep O env' w' E.C s v) (d:Option Tmp):Rel E O (setDst ts d s) sh' env' (a.put d v) w':=by
 refine ⟨?_,?_,?_,hh,h.glob.step hs⟩
 ·cases d<;>exact h.defers
 ·cases d with
  | none=>exact h.tsz
  | some d=>simp [Act.put,setDst,setNth_eq,h.tsz]
 ·intro t s' ht
  cases d with
  | none=>
   obtain ⟨v',hv,hr'⟩:=h.tmps t s' ht
   exact ⟨v',hv,hr'.step hs⟩
  | some d=>
   simp only [setDst,setNth_eq] at ht
   by_cases e:d=t
   ·subst e
    have hl:d<ts.length:=by
     have:=(List.getElem?_eq_some_iff.1 ht).1
     simpa using this
    rw [List.getElem?_set_self hl] at ht
    cases ht
    refine ⟨v,?_,hr⟩
    simp only [Act.put]
    rw [Array.getElem?_setIfInBounds_self_of_lt (by rw [h.tsz]; exact hl)]
   ·rw [List.getElem?_set_ne e] at ht
    obtain ⟨v',hv,hr'⟩:=h.tmps t s' ht
    refine ⟨v',?_,hr'.step hs⟩
    simp only [Act.put]
    rw [Array.getElem?_setIfInBounds_ne e]
    exact hv
theorem rep_named {O:Nat→Prop} {env:List Wit} {w:World} {C:Enc A} {s:SV A} {v:Value} (n:Nat) (h:Rep O env w C s v):Rep O env w C (named n s) v:=by
 unfold named
 split
 ·cases h; exact .sb
 ·exact h
/-- All that was there is as it was. -/
structure Old (w w':World):Prop where
 size:w.heap.size≤w'.heap.size
 same:∀ b,b<w.heap.size→w'.heap[b]?=w.heap[b]?
theorem Old.refl (w:World):Old w w:=⟨Nat.le_refl _,fun _ _=>rfl⟩
theorem Old.trans {a b c:World} (h:Old a b) (k:Old b c):Old a c:=⟨Nat.le_trans h.size k.size,fun i hi=>(k.same i (Nat.lt_of_lt_of_le hi h.size)).trans (h.same i hi)⟩
theorem Old.alloc (w:World) (o:Obj):Old w (w.alloc o):=⟨by simp,fun b hb=>heap_alloc_old w o hb⟩
/-- One operation, as its region meets it. -/
def OpOK (E:Eng A) (O:Nat→Prop) (o:Oper) (_sh:List (SO A)) (env:List Wit) (a:Act) (w:World) (K:Pred A):Prop:=
 ∀ (next:Act→World→Prop) (Q:Exit→Act→World→Prop),
  (∀ v s sh' env' w',Rep O env' w' E.C s v→HR O env' w' E.C sh'→Step env w env' w'→(quietOp E o.op=true→Old w w')→K s sh'→next (a.put o.dst v) w')→o.wp E.P a w next Q
/-- It yields a value, and leaves memory. -/
theorem opOK_of_run {o:Oper} {K:Pred A} {v:Value} {w':World} {s:SV A} {sh':List (SO A)} {env':List Wit}
  (hrun:(execOp a.eval o).run E.P w = .ok (.value v) w') (hr:Rep O env' w' E.C s v) (hh:HR O env' w' E.C sh') (hs:Step env w env' w') (hold:quietOp E o.op=true→Old w w') (hk:K s sh') :
  OpOK E O o sh env a w K:=by
 intro next Q h
 unfold Oper.wp
 rw [hrun]
 exact h v s sh' env' w' hr hh hs hold hk
theorem opOK_same {o:Oper} {K:Pred A} {v:Value} {s:SV A}
  (hrun:(execOp a.eval o).run E.P w = .ok (.value v) w) (hr:Rep O env w E.C s v) (h:Rel E O ts sh env a w) (hk:K s sh):OpOK E O o sh env a w K:=
 opOK_of_run hrun hr h.heap (Step.refl _ _) (fun _=>Old.refl _) hk
/-- It yields a value, whatever the world. -/
def OpY (E:Eng A) (O:Nat→Prop) (o:Oper) (sh:List (SO A)) (env:List Wit) (a:Act) (w:World) (K:Pred A):Prop:=
 ∃ v s,(∀ w',(execOp a.eval o).run E.P w' = .ok (.value v) w')∧Rep O env w E.C s v∧K s sh
theorem opY_same {o:Oper} {K:Pred A} {v:Value} {s:SV A}
  (hrun:∀ w',(execOp a.eval o).run E.P w' = .ok (.value v) w') (hr:Rep O env w E.C s v) (hk:K s sh):OpY E O o sh env a w K:=⟨v,s,hrun,hr,hk⟩
theorem OpY.ok {o:Oper} {K:Pred A} (hy:OpY E O o sh env a w K) (h:Rel E O ts sh env a w):OpOK E O o sh env a w K:=by
 obtain ⟨v,s,h1,h2,h3⟩:=hy
 exact opOK_same (h1 w) h2 h h3
end
section
variable {O:Nat→Prop} {env env':List Wit} {w w':World} {C:Enc A} {sh:List (SO A)}
theorem ORep.step (hs:Step env w env' w') {so:SO A} {x:Wit} (hk:∀ b,x.owns b→w'.heap[b]?=w.heap[b]?) (h:ORep O env w C so x):ORep O env' w' C so x:=by
 cases so with
 | dead=>exact h
 | cells e cs=>
  cases x with
  | blk b=>
   obtain ⟨vs,h1,h2⟩:=h
   exact ⟨vs,(hk b rfl).trans h1,h2.step hs⟩
  | dead=>exact h
  | sl v=>exact h
  | ro v=>exact h
  | mb b=>exact h
 | smap kt vt es st=>
  cases x with
  | mb b=>exact MapR.imp h (hk b rfl) (fun _ _ _ h=>h.step hs)
  | dead=>exact h
  | sl v=>exact h
  | ro v=>exact h
  | blk b=>exact h
 | amap kt vt es=>
  cases x with
  | mb b=>obtain ⟨st,h⟩:=h; exact ⟨st,MapR.imp h (hk b rfl) (fun _ _ _ h=>h.step hs)⟩
  | dead=>exact h
  | sl v=>exact h
  | ro v=>exact h
  | blk b=>exact h
 | rmap kt vt es st c=>
  cases x with
  | mb b=>exact MapRC.imp h (hk b rfl) (fun _ _ _ h=>h.step hs)
  | dead=>exact h
  | sl v=>exact h
  | ro v=>exact h
  | blk b=>exact h
 | miter m s a c=>
  cases x with
  | blk b=>obtain ⟨bm,sn,h1,h2,h3⟩:=h; exact ⟨bm,sn,(hk b rfl).trans h1,h2,h3.step hs⟩
  | dead=>exact h
  | sl v=>exact h
  | ro v=>exact h
  | mb b=>exact h
 | fr s=>
  cases x with
  | ro v=>exact Rep.step hs h
  | dead=>exact h
  | sl v=>exact h
  | blk b=>exact h
  | mb b=>exact h
 | ivec e k xs=>
  cases x with
  | sl v=>
   refine ⟨h.1,?_⟩
   rcases h.2 with h2 | ⟨g,cap,cur,h2,h3,h4,h5⟩
   ·exact .inl h2
   ·exact .inr ⟨g,cap,cur,h2,h3,(hk g (by simp [Wit.owns,h2,Value.ownBlock])).trans h4,h5⟩
  | dead=>exact h
  | ro v=>exact h
  | blk b=>exact h
  | mb b=>exact h
 | svec e xs=>
  cases x with
  | mb b=>exact h
  | ro v=>exact h
  | sl v=>
   obtain ⟨vs,h,hx⟩:=h
   refine ⟨vs,⟨h.1,?_⟩,fun j x hj=>(hx j x hj).step hs⟩
   rcases h.2 with h2 | ⟨g,cap,cur,h2,h3,h4,h5⟩
   ·exact .inl h2
   ·exact .inr ⟨g,cap,cur,h2,h3,(hk g (by simp [Wit.owns,h2,Value.ownBlock])).trans h4,h5⟩
  | dead=>exact h
  | blk b=>exact h
theorem owned_snoc {x:Wit} {b:Nat}:owned (env++[x]) b↔owned env b∨x.owns b:=by
 constructor
 ·rintro ⟨i,y,hi,ho⟩
  rcases Nat.lt_or_ge i env.length with h | h
  ·rw [List.getElem?_append_left h] at hi
   exact .inl ⟨i,y,hi,ho⟩
  ·rw [List.getElem?_append_right h] at hi
   cases hj:i-env.length with
   | zero=>rw [hj] at hi; simp at hi; subst hi; exact .inr ho
   | succ n=>rw [hj] at hi; simp at hi
 ·rintro (⟨i,y,hi,ho⟩ | h)
  ·have hl:i<env.length:=(List.getElem?_eq_some_iff.1 hi).1
   exact ⟨i,y,by rw [List.getElem?_append_left hl]; exact hi,ho⟩
  ·exact ⟨env.length,x,by simp,h⟩
/-- A new block. -/
theorem HR.new (h:HR O env w C sh) (e:TypeId) (cs:SL A) (vs:List Value) (hr:RepL O env w C cs vs) :
  HR O (env++[.blk w.heap.size]) (w.alloc (.cells vs.toArray e)) C (sh++[.cells e cs])∧Step env w (env++[.blk w.heap.size]) (w.alloc (.cells vs.toArray e)):=by
 have hsz:(w.alloc (.cells vs.toArray e)).heap.size=w.heap.size+1:=by simp
 have hs:Step env w (env++[.blk w.heap.size]) (w.alloc (.cells vs.toArray e)):=by
  refine ⟨rfl,rfl,rfl,by rw [hsz]; omega,by simp,fun i x hi=>⟨x,?_,.refl x⟩,fun b hb=>?_,fun b hb _=>heap_alloc_old w _ hb⟩
  ·rw [List.getElem?_append_left (List.getElem?_eq_some_iff.1 hi).1]; exact hi
  ·rcases owned_snoc.1 hb with h1 | h1
   ·exact .inl h1
   ·exact .inr (by simp only [Wit.owns] at h1; omega)
 refine ⟨⟨by simp [h.len],?_,?_,?_,?_,?_⟩,hs⟩
 ·intro i so x h1 h2
  rcases Nat.lt_or_ge i env.length with hi | hi
  ·rw [List.getElem?_append_left (by rw [h.len]; exact hi)] at h1
   rw [List.getElem?_append_left hi] at h2
   exact (h.rep i so x h1 h2).step hs (fun b hb=>heap_alloc_old w _ (h.lt b ⟨i,x,h2,hb⟩))
  ·rw [List.getElem?_append_right (by rw [h.len]; exact hi)] at h1
   rw [List.getElem?_append_right hi] at h2
   rw [h.len] at h1
   cases hj:i-env.length with
   | zero=>
    rw [hj] at h1 h2
    simp at h1 h2
    subst h1; subst h2
    exact ⟨vs,heap_alloc_new w _,hr.step hs⟩
   | succ n=>rw [hj] at h1; simp at h1
 ·intro i j x y b hx hy hxb hyb
  have key:∀ (i:Nat) x,(env++[Wit.blk w.heap.size])[i]?=some x→x.owns b→(i<env.length∧env[i]?=some x)∨(i=env.length∧b=w.heap.size):=by
   intro i x hx hb
   rcases Nat.lt_or_ge i env.length with hi | hi
   ·rw [List.getElem?_append_left hi] at hx; exact .inl ⟨hi,hx⟩
   ·rw [List.getElem?_append_right hi] at hx
    cases hj:i-env.length with
    | zero=>rw [hj] at hx; simp at hx; subst hx; exact .inr ⟨by omega,hb⟩
    | succ n=>rw [hj] at hx; simp at hx
  rcases key i x hx hxb with ⟨h1,h2⟩ | ⟨h1,h2⟩<;>rcases key j y hy hyb with ⟨h3,h4⟩ | ⟨h3,h4⟩
  ·exact h.disj i j x y b h2 h4 hxb hyb
  ·have:=h.lt b ⟨i,x,h2,hxb⟩; omega
  ·have:=h.lt b ⟨j,y,h4,hyb⟩; omega
  ·omega
 ·intro b hb
  rcases owned_snoc.1 hb with h1 | h1
  ·exact h.out b h1
  ·intro h2; have:=h.olt b h2; simp only [Wit.owns] at h1; omega
 ·intro b hb
  rw [hsz]
  rcases owned_snoc.1 hb with h1 | h1
  ·have:=h.lt b h1; omega
  ·simp only [Wit.owns] at h1; omega
 ·intro b hb; rw [hsz]; have:=h.olt b hb; omega
end
end Go.Eng

/-! The engine's operations are right: arithmetic, slots, new variables. Conditions: none. -/
namespace Go.Eng
open Go
variable {A:Nat→Type}
theorem under_of_desc {P:Program} {t:TypeId} {d:TypeDesc} (h:desc P t=d) (hd:d ≠ .invalid):P.underlying t=some d:=by
 unfold desc at h
 split at h
 ·rename_i e he; rw [he,h]
 ·exact absurd h.symm hd
theorem info_of_tsize {P:Program} {t:TypeId} {n:Nat} (h:tsize P t=n) (hn:n≠0):∃ i,P.info? t=some i∧i.size=n:=by
 unfold tsize at h
 split at h
 ·rename_i i hi; exact ⟨i,hi,h⟩
 ·exact absurd h.symm hn
section
variable {O:Nat→Prop} {env:List Wit} {w:World} {C:Enc A} {v:Value}
theorem Rep.inv_val {u:Value} (h:Rep O env w C (.val u:SV A) v):v=u:=by cases h; rfl
theorem Rep.inv_undef (h:Rep O env w C (.undef:SV A) v):v=Go.undef:=by cases h; rfl
theorem Rep.inv_int {k:IntKind} {n:Int} (h:Rep O env w C (.int k n:SV A) v):v = .int k n:=by cases h; rfl
theorem Rep.inv_lit {k:IntKind} {n:Int} (h:Rep O env w C (.lit k n:SV A) v):v = .int k n:=by cases h; rfl
theorem Rep.inv_bl {b:Bool} (h:Rep O env w C (.bl b:SV A) v):v = .bool b:=by cases h; rfl
theorem Rep.inv_sb {i:Nat} {b:Bool} (h:Rep O env w C (.sb i b:SV A) v):v = .bool b:=by cases h; rfl
theorem Rep.inv_ptr {i off:Nat} (h:Rep O env w C (.ptr i off:SV A) v):refAt env i off v:=by cases h; assumption
theorem Rep.inv_aptr {i off n j:Nat} (h:Rep O env w C (.aptr i off n j:SV A) v):blkAt env i fun b=>v = .pointer (some ⟨b,off+j,none⟩)∧j<n:=by cases h; assumption
theorem Rep.inv_asl {i off n:Nat} (h:Rep O env w C (.asl i off n:SV A) v):blkAt env i fun b=>∃ c,v = .slice (some ⟨b,off,none⟩) n c∧n≤c∧c≤maxLen:=by cases h; assumption
theorem Rep.inv_vec {i:Nat} (h:Rep O env w C (.vec i:SV A) v):slAt env i fun u=>v=u:=by cases h; assumption
theorem Rep.inv_vptr {i j size off:Nat} (h:Rep O env w C (.vptr i j size off:SV A) v):slAt env i fun u=>∃ b n c,u = .slice (some ⟨b,0,none⟩) n c∧v = .pointer (some ⟨b,j*size+off,none⟩):=by cases h; assumption
theorem Rep.inv_rints {k:IntKind} {xs:List Int} (h:Rep O env w C (.rints k xs:SV A) v):∃ (x:Option Addr) (c:Nat),v = .slice x xs.length c∧xs.length≤c∧c≤maxLen∧ROat O env w x (xs.map (Value.int k)):=by
 cases h; exact ⟨_,_,rfl,‹_›,‹_›,‹_›⟩
theorem Rep.inv_rseq {t:Nat} {xs:List (A t)} (h:Rep O env w C (.rseq t xs:SV A) v):∃ (x:Option Addr) (c:Nat) (vs:List Value),v = .slice x xs.length c∧xs.length≤c∧c≤maxLen∧vs.length=xs.length*C.size t∧ROat O env w x vs ∧
  ∀ (j:Nat) (x:A t),xs[j]?=some x→RepL O env w C (C.enc t x) ((vs.drop (j*C.size t)).take (C.size t)):=by
 cases h; exact ⟨_,_,_,rfl,‹_›,‹_›,‹_›,‹_›,‹_›⟩
theorem Rep.inv_rful {t:Nat} {xs:List (A t)} (h:Rep O env w C (.rful t xs:SV A) v):∃ (x:Option Addr) (vs:List Value),v = .slice x xs.length xs.length∧xs.length≤maxLen∧vs.length=xs.length*C.size t∧ROat O env w x vs ∧
  ∀ (j:Nat) (x:A t),xs[j]?=some x→RepL O env w C (C.enc t x) ((vs.drop (j*C.size t)).take (C.size t)):=by
 cases h; exact ⟨_,_,rfl,‹_›,‹_›,‹_›,‹_›⟩
theorem Rep.inv_rptr {cs:SL A} {off:Nat} (h:Rep O env w C (.rptr cs off:SV A) v):∃ (b o:Nat) (vs:List Value),v = .pointer (some ⟨b,o+off,none⟩)∧¬O b∧¬owned env b∧b<w.heap.size ∧
  (∀ (j:Nat) u,vs[j]?=some u→w.cell? ⟨b,o+j,none⟩=some u)∧RepL O env w C cs vs:=by
 cases h; exact ⟨_,_,_,rfl,‹_›,‹_›,‹_›,‹_›,‹_›⟩
theorem Rep.inv_iface {t:TypeId} {s:SV A} (h:Rep O env w C (.iface t s:SV A) v):∃ u,v = .iface t u∧Rep O env w C s u:=by
 cases h; exact ⟨_,rfl,‹_›⟩
theorem Rep.inv_err {t:TypeId} {n:Int} (h:Rep O env w C (.err t n:SV A) v):n=0∧v = .nilIface∨n≠0∧v = .iface t (.int .i64 n):=by cases h; assumption
theorem Rep.inv_fn {f:Fn} {x y:SL A} (h:Rep O env w C (.fn f x y:SV A) v):∃ us vs:List Value,v = .func f us.toArray vs.toArray∧RepL O env w C x us∧RepL O env w C y vs:=by
 cases h; exact ⟨_,_,rfl,‹_›,‹_›⟩
theorem Rep.inv_agg {x:SL A} (h:Rep O env w C (.agg x:SV A) v):∃ us:List Value,v = .agg us.toArray∧RepL O env w C x us:=by
 cases h; exact ⟨_,rfl,‹_›⟩
theorem Rep.inv_tup {x:SL A} (h:Rep O env w C (.tup x:SV A) v):∃ us:List Value,v = .tuple us.toArray∧RepL O env w C x us:=by
 cases h; exact ⟨_,rfl,‹_›⟩
theorem RepL.inv_nil {vs:List Value} (h:RepL O env w C (.nil:SL A) vs):vs=[]:=by cases h; rfl
theorem RepL.inv_cell {s:SV A} {r:SL A} {vs:List Value} (h:RepL O env w C (.cell s r) vs):∃ u us,vs=u::us∧Rep O env w C s u∧RepL O env w C r us:=by
 cases h; exact ⟨_,_,rfl,‹_›,‹_›⟩
theorem RepL.inv_run {k:IntKind} {n:Nat} {xs:List Int} {r:SL A} {vs:List Value} (h:RepL O env w C (.run k n xs r) vs):∃ us,xs.length=n∧vs=xs.map (Value.int k)++us∧RepL O env w C r us:=by
 cases h; exact ⟨_,‹_›,rfl,‹_›⟩
theorem rep_asBool {s:SV A} {b:Bool} (hb:asBool s=some b) (h:Rep O env w C s v):v = .bool b:=by
 cases h<;>simp [asBool] at hb<;>rw [hb]
theorem rep_asInt {s:SV A} {k:IntKind} {n:Int} {l:Bool} (hb:asInt s=some (k,n,l)) (h:Rep O env w C s v):v = .int k n:=by
 cases h<;>simp [asInt] at hb<;>rw [hb.1,hb.2.1]
theorem rep_mkInt {l:Bool} {k:IntKind} {n:Int}:Rep O env w C (mkInt l k n:SV A) (.int k n):=by
 cases l<;>constructor
theorem rep_mkBool {l b:Bool}:Rep O env w C (mkBool l b:SV A) (.bool b):=by
 cases l<;>constructor
end
theorem wrap_id {x:Int} (h:inI64 x):IntKind.i64.wrap x=x:=by
 unfold inI64 at h
 simp [IntKind.wrap,IntKind.bits,IntKind.signed]
 omega
section
variable {E:Eng A} {O:Nat→Prop} {ts:List (SV A)} {sh:List (SO A)} {env:List Wit} {a:Act} {w:World} {o:Oper} {K:Pred A}
theorem op_move {x:Operand} (ho:o.op = .move x) (h:Rel E O ts sh env a w) (hk:K (ev E ts x) sh):OpY E O o sh env a w K:=
 opY_same (v:=a.eval x) (fun w'=>by simp [execOp,ho]) (ev_rep h x) hk
theorem op_assign {x:Operand} (ho:o.op = .assign x) (h:Rel E O ts sh env a w) (hk:K (ev E ts x) sh):OpY E O o sh env a w K:=
 opY_same (v:=a.eval x) (fun w'=>by simp [execOp,ho]) (ev_rep h x) hk
theorem op_pick {c x y:Operand} (ho:o.op = .pick c x y) (h:Rel E O ts sh env a w) (hk:stepOp E (.pick c x y) ts sh K):OpY E O o sh env a w K:=by
 simp only [stepOp] at hk
 have hc:=evr_rep h c
 split at hk
 ·rename_i e; rw [e] at hc
  have hv:=hc.inv_bl
  exact opY_same (v:=a.eval x) (fun w'=>by simp [execOp,ho,hv,Go.asBool]) (evr_rep h x) hk
 ·rename_i e; rw [e] at hc
  have hv:=hc.inv_bl
  exact opY_same (v:=a.eval y) (fun w'=>by simp [execOp,ho,hv,Go.asBool]) (evr_rep h y) hk
 ·rename_i i b e; rw [e] at hc
  have hv:=hc.inv_sb
  split at hk
  ·rename_i p q hp hq
   have h1:=rep_asBool hp (evr_rep h x)
   have h2:=rep_asBool hq (evr_rep h y)
   refine opY_same (v := .bool (if b then p else q)) (fun w'=>?_) .sb hk
   cases b<;>simp [execOp,ho,hv,Go.asBool,h1,h2]
  ·exact hk.elim
 ·exact hk.elim
/-- A binary operation on integers. -/
theorem run_intBin (op:BinOp) (t:TypeId) (k:IntKind) (x y:Int) (l:Bool) (K':SV A→Prop) (hk:intBin op k x y l K') (C:Enc A) :
  ∃ v s,(∀ w',(Go.binOp op t (.int k x) (.int k y)).run E.P w' = .ok v w')∧Rep O env w C s v∧K' s:=by
 cases op<;>simp only [intBin] at hk
 case add=>
  split at hk
  ·exact ⟨_,_,fun _=>by simp [Go.binOp,Op.intArith,wrap_id hk.1],.int,hk.2⟩
  ·exact ⟨_,_,fun _=>by simp [Go.binOp,Op.intArith,wr],rep_mkInt,hk⟩
 case sub=>
  split at hk
  ·exact ⟨_,_,fun _=>by simp [Go.binOp,Op.intArith,wrap_id hk.1],.int,hk.2⟩
  ·exact ⟨_,_,fun _=>by simp [Go.binOp,Op.intArith,wr],rep_mkInt,hk⟩
 case mul=>
  split at hk
  ·exact ⟨_,_,fun _=>by simp [Go.binOp,Op.intArith,wrap_id hk.1],.int,hk.2⟩
  ·exact ⟨_,_,fun _=>by simp [Go.binOp,Op.intArith,wr],rep_mkInt,hk⟩
 case quo=>exact ⟨_,_,fun _=>by simp [Go.binOp,Op.intDiv,wr,hk.1],rep_mkInt,hk.2⟩
 case rem=>exact ⟨_,_,fun _=>by simp [Go.binOp,Op.intDiv,hk.1],rep_mkInt,hk.2⟩
 case and=>exact ⟨_,_,fun _=>by simp [Go.binOp,Op.intBits,bitop],rep_mkInt,hk⟩
 case or=>exact ⟨_,_,fun _=>by simp [Go.binOp,Op.intBits,bitop],rep_mkInt,hk⟩
 case xor=>exact ⟨_,_,fun _=>by simp [Go.binOp,Op.intBits,bitop],rep_mkInt,hk⟩
 case andNot=>exact ⟨_,_,fun _=>by simp [Go.binOp,Op.intBits,bitop],rep_mkInt,hk⟩
 case eql=>exact ⟨_,_,fun _=>by simp [Go.binOp,Op.intCmp],rep_mkBool,hk⟩
 case neq=>exact ⟨_,_,fun _=>by simp [Go.binOp,Op.intCmp],rep_mkBool,hk⟩
 case lss=>exact ⟨_,_,fun _=>by simp [Go.binOp,Op.intCmp],rep_mkBool,hk⟩
 case leq=>exact ⟨_,_,fun _=>by simp [Go.binOp,Op.intCmp],rep_mkBool,hk⟩
 case gtr=>exact ⟨_,_,fun _=>by simp [Go.binOp,Op.intCmp],rep_mkBool,hk⟩
 case geq=>exact ⟨_,_,fun _=>by simp [Go.binOp,Op.intCmp],rep_mkBool,hk⟩
theorem op_unOp {op:UnOp} {t:TypeId} {x:Operand} (ho:o.op = .unOp op t x) (h:Rel E O ts sh env a w) (hk:unS op (evr E ts sh x) fun v=>K v sh):OpY E O o sh env a w K:=by
 have hx:=evr_rep h x
 unfold unS at hk
 split at hk
 ·rename_i e; rw [e] at hx
  exact opY_same (v:=_) (fun w'=>by simp [execOp,ho,hx.inv_bl,Op.unary]) .bl hk
 ·rename_i e; rw [e] at hx
  exact opY_same (v:=_) (fun w'=>by simp [execOp,ho,hx.inv_sb,Op.unary]) .sb hk
 ·rename_i e; rw [e] at hx
  exact opY_same (v:=_) (fun w'=>by simp [execOp,ho,hx.inv_lit,Op.unary,Op.intArith]; rfl) (by simp only [wr]; simp; exact .lit) hk
 ·rename_i e; rw [e] at hx
  have hw:=wrap_id hk.1
  refine opY_same (v := .int .i64 (0-_)) (fun w'=>by simp only [execOp,ho,hx.inv_int,Op.unary,Op.intArith,hw]; simp) .int hk.2
 ·rename_i e; rw [e] at hx
  exact opY_same (v:=_) (fun w'=>by simp [execOp,ho,hx.inv_int,Op.unary,Op.intArith]; rfl) (by simp only [wr]; simp; exact .int) hk
 ·rename_i e; rw [e] at hx
  exact opY_same (v:=_) (fun w'=>by simp only [execOp,ho,hx.inv_int,Op.unary,Op.intBits]; simp; rfl) .int hk
 ·rename_i e; rw [e] at hx
  exact opY_same (v:=_) (fun w'=>by simp only [execOp,ho,hx.inv_lit,Op.unary,Op.intBits]; simp; rfl) .lit hk
 ·exact hk.elim
theorem op_convert {s d:TypeId} {x:Operand} {k1:IntKind} (ho:o.op = .convert s d x) (e1:desc E.P s = .int k1) (h:Rel E O ts sh env a w) (hk:convS E s d (evr E ts sh x) sh fun v=>K v sh):OpY E O o sh env a w K:=by
 unfold convS at hk
 rw [e1] at hk
 simp only at hk
 split at hk
 ·rename_i k2 k n l e2 e3
  have h1:=under_of_desc e1 (by simp)
  have h2:=under_of_desc e2 (by simp)
  have hv:=rep_asInt e3 (evr_rep h x)
  exact opY_same (v := .int k2 (k2.wrap n)) (fun w'=>by simp [execOp,ho,hv,Go.convert,run_underlying h1,run_underlying h2,Conv.intToInt]) rep_mkInt hk
 ·exact hk.elim
theorem op_makeInterface {t:TypeId} {x:Operand} (ho:o.op = .makeInterface t x) (h:Rel E O ts sh env a w) (hk:stepOp E (.makeInterface t x) ts sh K):OpY E O o sh env a w K:=by
 simp only [stepOp] at hk
 split at hk
 ·rename_i k e1
  have h1:=under_of_desc e1 (by simp)
  exact opY_same (v := .iface t (a.eval x)) (fun w'=>by simp [execOp,ho,Instr.makeInterface,run_underlying h1]) (.iface (evr_rep h x)) hk
 ·exact hk.elim
theorem rep_mkL {l:List Operand} (h:Rel E O ts sh env a w):RepL O env w E.C (mkL (l.map (evr E ts sh))) (l.map a.eval):=by
 induction l with
 | nil=>exact .nil
 | cons x l ih=>exact .cell (evr_rep h x) ih
theorem op_makeFunc {f:Fn} {x y:Array Operand} (ho:o.op = .makeFunc f x y) (h:Rel E O ts sh env a w) (hk:stepOp E (.makeFunc f x y) ts sh K):OpY E O o sh env a w K:=by
 simp only [stepOp] at hk
 have hr:=Rep.fn (O:=O) (env:=env) (w:=w) (C:=E.C) (f:=f) _ _ (rep_mkL h (l:=x.toList)) (rep_mkL h (l:=y.toList))
 refine opY_same (v := .func f (x.map a.eval) (y.map a.eval)) (fun w'=>by simp [execOp,ho,Instr.makeFunc]) ?_ hk
 have e1:(x.toList.map a.eval).toArray=x.map a.eval:=by rw [← Array.toList_map]
 have e2:(y.toList.map a.eval).toArray=y.map a.eval:=by rw [← Array.toList_map]
 rw [e1,e2] at hr
 exact hr
end
end Go.Eng

/-! The engine's operations are right: cells. Conditions: none. -/
namespace Go.Eng
open Go
variable {A:Nat→Type}
section
variable {O:Nat→Prop} {env:List Wit} {w:World} {C:Enc A}
theorem RepL.length:∀ {cs:SL A} {vs:List Value},RepL O env w C cs vs→vs.length=cs.len
 | .nil,_,h=>by rw [h.inv_nil]; rfl
 | .cell s r,_,h=>by
  obtain ⟨u,us,rfl,_,hr⟩:=h.inv_cell
  simp [SL.len,RepL.length hr]
 | .run k n xs r,_,h=>by
  obtain ⟨us,hn,rfl,hr⟩:=h.inv_run
  simp [SL.len,RepL.length hr,hn]
theorem RepL.app:∀ {x y:SL A} {us vs:List Value},RepL O env w C x us→RepL O env w C y vs→RepL O env w C (x.app y) (us++vs)
 | .nil,_,_,_,h,k=>by rw [h.inv_nil]; exact k
 | .cell s r,_,_,_,h,k=>by
  obtain ⟨u,us,rfl,hs,hr⟩:=h.inv_cell
  exact .cell hs (RepL.app hr k)
 | .run k' n xs r,_,_,_,h,k=>by
  obtain ⟨us,hn,rfl,hr⟩:=h.inv_run
  rw [List.append_assoc]
  exact .run hn (RepL.app hr k)
theorem RepL.take:∀ {cs:SL A} {vs:List Value} {n:Nat} {x:SL A},RepL O env w C cs vs→cs.take n=some x→RepL O env w C x (vs.take n)∧n≤vs.length
 | cs,vs,0,x,h,e=>by
  have:x = .nil:=by cases cs<;>simp [SL.take] at e<;>exact e.symm
  subst this
  exact ⟨by rw [List.take_zero]; exact .nil,Nat.zero_le _⟩
 | .nil,_,n+1,x,h,e=>by simp [SL.take] at e
 | .cell s r,_,n+1,x,h,e=>by
  obtain ⟨u,us,rfl,hs,hr⟩:=h.inv_cell
  simp only [SL.take] at e
  split at e
  ·rename_i y hy
   obtain ⟨h1,h2⟩:=RepL.take hr hy
   cases e
   exact ⟨.cell hs h1,by simp; exact h2⟩
  ·cases e
 | .run k m xs r,_,n+1,x,h,e=>by
  obtain ⟨us,hn,rfl,hr⟩:=h.inv_run
  simp only [SL.take] at e
  split at e
  ·rename_i hm
   split at e
   ·rename_i y hy
    obtain ⟨h1,h2⟩:=RepL.take hr hy
    cases e
    refine ⟨?_,by simp; omega⟩
    rw [List.take_append,List.take_of_length_le (by simp; omega)]
    simp only [List.length_map,hn]
    exact .run hn h1
   ·cases e
  ·rename_i hm
   cases e
   refine ⟨?_,by simp; omega⟩
   rw [List.take_append_of_le_length (by simp; omega),← List.map_take]
   have:=RepL.run (O:=O) (env:=env) (w:=w) (C:=C) (k:=k) (xs:=xs.take (n+1)) (n:=n+1) (by simp; omega) RepL.nil
   simpa using this
theorem RepL.drop:∀ {cs:SL A} {vs:List Value} {n:Nat} {x:SL A},RepL O env w C cs vs→cs.drop n=some x→RepL O env w C x (vs.drop n)∧n≤vs.length
 | cs,vs,0,x,h,e=>by
  have:x=cs:=by cases cs<;>simp [SL.drop] at e<;>exact e.symm
  subst this
  exact ⟨h,Nat.zero_le _⟩
 | .nil,_,n+1,x,h,e=>by simp [SL.drop] at e
 | .cell s r,_,n+1,x,h,e=>by
  obtain ⟨u,us,rfl,hs,hr⟩:=h.inv_cell
  simp only [SL.drop] at e
  obtain ⟨h1,h2⟩:=RepL.drop hr e
  exact ⟨h1,by simp; exact h2⟩
 | .run k m xs r,_,n+1,x,h,e=>by
  obtain ⟨us,hn,rfl,hr⟩:=h.inv_run
  simp only [SL.drop] at e
  split at e
  ·rename_i hm
   obtain ⟨h1,h2⟩:=RepL.drop hr e
   refine ⟨?_,by simp; omega⟩
   rw [List.drop_append,List.drop_of_length_le (by simp; omega)]
   simp only [List.length_map,hn,List.nil_append]
   exact h1
  ·rename_i hm
   cases e
   refine ⟨?_,by simp; omega⟩
   rw [List.drop_append_of_le_length (by simp; omega),← List.map_drop]
   exact .run (by simp; omega) hr
theorem RepL.sub {cs:SL A} {vs:List Value} {o n:Nat} {x:SL A} (h:RepL O env w C cs vs) (e:cs.sub o n=some x) :
  RepL O env w C x ((vs.drop o).take n)∧o+n≤vs.length:=by
 unfold SL.sub at e
 split at e
 ·rename_i d hd
  obtain ⟨h1,h2⟩:=h.drop hd
  obtain ⟨h3,h4⟩:=h1.take e
  exact ⟨h3,by simp at h4; omega⟩
 ·cases e
theorem RepL.put {cs d:SL A} {vs us:List Value} {o:Nat} {x:SL A} (h:RepL O env w C cs vs) (hd:RepL O env w C d us) (e:cs.put o d=some x) :
  RepL O env w C x (vs.take o++us++vs.drop (o+us.length))∧o+us.length≤vs.length:=by
 unfold SL.put at e
 split at e
 ·rename_i y hy
  split at e
  ·rename_i z hz
   cases e
   rw [← hd.length] at hz
   obtain ⟨h1,_⟩:=h.take hy
   obtain ⟨h3,h4⟩:=h.drop hz
   refine ⟨?_,h4⟩
   rw [List.append_assoc]
   exact h1.app (hd.app h3)
  ·cases e
 ·cases e
theorem RepL.one:∀ {cs:SL A} {vs:List Value} {o:Nat} {s:SV A},RepL O env w C cs vs→cs.one o=some s→∃ v,vs[o]?=some v∧Rep O env w C s v
 | .nil,_,_,_,_,e=>by simp [SL.one] at e
 | .cell s' r,_,0,s,h,e=>by
  obtain ⟨u,us,rfl,hs,hr⟩:=h.inv_cell
  simp only [SL.one,Option.some.injEq] at e
  subst e
  exact ⟨u,rfl,hs⟩
 | .cell s' r,_,n+1,s,h,e=>by
  obtain ⟨u,us,rfl,hs,hr⟩:=h.inv_cell
  simp only [SL.one] at e
  have hq:=RepL.one hr e
  simpa using hq
 | .run k m xs r,_,o,s,h,e=>by
  obtain ⟨us,hn,rfl,hr⟩:=h.inv_run
  simp only [SL.one] at e
  split at e
  ·rename_i hm
   cases e
   have hl:o<xs.length:=by omega
   refine ⟨.int k (xs.getD o 0),?_,.int⟩
   rw [List.getElem?_append_left (by simp; exact hl)]
   simp [hl]
  ·rename_i hm
   obtain ⟨v,hv,hr'⟩:=RepL.one hr e
   refine ⟨v,?_,hr'⟩
   rw [List.getElem?_append_right (by simp; omega)]
   simpa [hn] using hv
theorem RepL.runAt:∀ {cs:SL A} {vs:List Value} {o:Nat} {k:IntKind} {m:Nat} {xs:List Int},RepL O env w C cs vs→cs.runAt o=some (k,m,xs) →
  xs.length=m∧∃ pre post,vs=pre++(xs.map (Value.int k)++post)∧pre.length=o ∧
   ∀ ys:List Int,ys.length=m→RepL O env w C (cs.runSet o ys) (pre++(ys.map (Value.int k)++post))
 | .nil,_,_,_,_,_,_,e=>by simp [SL.runAt] at e
 | .cell s' r,_,0,_,_,_,h,e=>by simp [SL.runAt] at e
 | .cell s' r,_,n+1,k,m,xs,h,e=>by
  obtain ⟨u,us,rfl,hs,hr⟩:=h.inv_cell
  simp only [SL.runAt] at e
  obtain ⟨h1,pre,post,h2,h3,h4⟩:=RepL.runAt hr e
  exact ⟨h1,u::pre,post,by rw [h2]; rfl,by simp [h3],fun ys hy => .cell hs (h4 ys hy)⟩
 | .run k' m' xs' r,_,o,k,m,xs,h,e=>by
  obtain ⟨us,hn,rfl,hr⟩:=h.inv_run
  simp only [SL.runAt] at e
  split at e
  ·rename_i hm
   split at e
   ·rename_i ho
    cases e
    refine ⟨hn,[],us,rfl,by simp [ho],fun ys hy=>?_⟩
    subst ho
    simp only [SL.runSet,hm,if_true,List.nil_append]
    exact .run hy hr
   ·cases e
  ·rename_i hm
   obtain ⟨h1,pre,post,h2,h3,h4⟩:=RepL.runAt hr e
   refine ⟨h1,xs'.map (Value.int k')++pre,post,by rw [h2,List.append_assoc],by simp [h3,hn]; omega,fun ys hy=>?_⟩
   simp only [SL.runSet,hm,if_false]
   rw [List.append_assoc]
   exact .run hn (h4 ys hy)
theorem RepL.part:∀ {cs:SL A} {vs:List Value} {o n:Nat} {k:IntKind} {xs:List Int},RepL O env w C cs vs→cs.part o n=some (k,xs) →
  xs.length=n∧∃ pre post,vs=pre++(xs.map (Value.int k)++post)∧pre.length=o ∧
   ∀ ys:List Int,ys.length=n→RepL O env w C (cs.partSet o n ys) (pre++(ys.map (Value.int k)++post))
 | .nil,_,_,_,_,_,_,e=>by simp [SL.part] at e
 | .cell s' r,_,0,_,_,_,h,e=>by simp [SL.part] at e
 | .cell s' r,_,o+1,n,k,xs,h,e=>by
  obtain ⟨u,us,rfl,hs,hr⟩:=h.inv_cell
  simp only [SL.part] at e
  obtain ⟨h1,pre,post,h2,h3,h4⟩:=RepL.part hr e
  exact ⟨h1,u::pre,post,by rw [h2]; rfl,by simp [h3],fun ys hy => .cell hs (h4 ys hy)⟩
 | .run k' m' xs' r,_,o,n,k,xs,h,e=>by
  obtain ⟨us,hn,rfl,hr⟩:=h.inv_run
  simp only [SL.part] at e
  split at e
  ·rename_i hm
   split at e
   ·rename_i ho
    subst ho
    split at e
    ·rename_i hnm
     cases e
     refine ⟨hn.trans hnm.symm,[],us,rfl,rfl,fun ys hy=>?_⟩
     simp only [SL.partSet,hm,if_true,hnm,List.nil_append]
     exact .run (hy.trans hnm) hr
    ·rename_i hnm
     split at e
     ·rename_i hle
      cases e
      refine ⟨by simp; omega,[],(xs'.drop n).map (Value.int k')++us,?_,rfl,fun ys hy=>?_⟩
      ·rw [List.nil_append,← List.append_assoc,← List.map_append,List.take_append_drop]
      ·simp only [SL.partSet,hm,if_true,hnm,if_false,List.nil_append]
       rw [← List.append_assoc,← List.map_append]
       exact .run (by simp; omega) hr
     ·cases e
   ·rename_i ho
    split at e
    ·rename_i hle
     cases e
     refine ⟨by simp; omega,(xs'.take o).map (Value.int k'),(xs'.drop (o+n)).map (Value.int k')++us,?_,by simp; omega,fun ys hy=>?_⟩
     ·rw [← List.append_assoc,← List.append_assoc,← List.map_append,← List.map_append]
      congr 2
      rw [← List.drop_drop,List.append_assoc,List.take_append_drop,List.take_append_drop]
     ·simp only [SL.partSet,hm,if_true,ho,if_false]
      have e2:(xs'.take o).map (Value.int k')++(ys.map (Value.int k')++((xs'.drop (o+n)).map (Value.int k')++us))=(xs'.take o++(ys++xs'.drop (o+n))).map (Value.int k')++us:=by
       simp [List.append_assoc]
      rw [e2]
      exact .run (by simp; omega) hr
    ·cases e
  ·rename_i hm
   obtain ⟨h1,pre,post,h2,h3,h4⟩:=RepL.part hr e
   refine ⟨h1,xs'.map (Value.int k')++pre,post,by rw [h2,List.append_assoc],by simp [h3,hn]; omega,fun ys hy=>?_⟩
   simp only [SL.partSet,hm,if_false]
   rw [List.append_assoc]
   exact .run hn (h4 ys hy)
end
section
variable {O:Nat→Prop} {env:List Wit} {w:World} {C:Enc A} {sh:List (SO A)}
/-- The block of a live entry. -/
theorem HR.cells (h:HR O env w C sh) {i:Nat} {e:TypeId} {cs:SL A} (hi:nth sh i=some (.cells e cs)) :
  ∃ b vs,env[i]?=some (.blk b)∧w.heap[b]?=some (.cells (List.toArray vs) e (0,0))∧RepL O env w C cs vs:=by
 rw [nth_eq] at hi
 have hl:i<env.length:=by rw [← h.len]; exact (List.getElem?_eq_some_iff.1 hi).1
 have hx:env[i]?=some env[i]:=List.getElem?_eq_getElem hl
 have hr:=h.rep i _ _ hi hx
 generalize env[i]=x at hx hr
 cases x with
 | blk b=>obtain ⟨vs,h1,h2⟩:=hr; exact ⟨b,vs,hx,h1,h2⟩
 | dead=>exact hr.elim
 | ro v=>exact hr.elim
 | sl v=>exact hr.elim
 | mb b=>exact hr.elim
theorem HR.ivec (h:HR O env w C sh) {i:Nat} {e:TypeId} {k:IntKind} {xs:List Int} (hi:nth sh i=some (.ivec e k xs)) :
  ∃ v,env[i]?=some (.sl v)∧w.ownsRow 0 e 1 v xs.length (xs.map (Value.int k)):=by
 rw [nth_eq] at hi
 have hl:i<env.length:=by rw [← h.len]; exact (List.getElem?_eq_some_iff.1 hi).1
 have hx:env[i]?=some env[i]:=List.getElem?_eq_getElem hl
 have hr:=h.rep i _ _ hi hx
 generalize env[i]=x at hx hr
 cases x with
 | blk b=>exact hr.elim
 | ro v=>exact hr.elim
 | dead=>exact hr.elim
 | mb b=>exact hr.elim
 | sl v=>exact ⟨v,hx,hr⟩
theorem HR.svec (h:HR O env w C sh) {i:Nat} {e:TypeId} {xs:List (A e)} (hi:nth sh i=some (.svec e xs)) :
  ∃ v vs,env[i]?=some (.sl v)∧w.ownsRow 0 e (C.size e) v xs.length vs ∧
   ∀ (j:Nat) (x:A e),xs[j]?=some x→RepL O env w C (C.enc e x) ((vs.drop (j*C.size e)).take (C.size e)):=by
 rw [nth_eq] at hi
 have hl:i<env.length:=by rw [← h.len]; exact (List.getElem?_eq_some_iff.1 hi).1
 have hx:env[i]?=some env[i]:=List.getElem?_eq_getElem hl
 have hr:=h.rep i _ _ hi hx
 generalize env[i]=x at hx hr
 cases x with
 | blk b=>exact hr.elim
 | ro v=>exact hr.elim
 | dead=>exact hr.elim
 | mb b=>exact hr.elim
 | sl v=>obtain ⟨vs,h1,h2⟩:=hr; exact ⟨v,vs,hx,h1,h2⟩
theorem HR.smap (h:HR O env w C sh) {i:Nat} {kt vt:Nat} {es:List (A kt×A vt)} {st:List Int} (hi:nth sh i=some (.smap kt vt es st)) :
  ∃ b,env[i]?=some (.mb b)∧MapR O env w C kt vt es st b:=by
 rw [nth_eq] at hi
 have hl:i<env.length:=by rw [← h.len]; exact (List.getElem?_eq_some_iff.1 hi).1
 have hx:env[i]?=some env[i]:=List.getElem?_eq_getElem hl
 have hr:=h.rep i _ _ hi hx
 generalize env[i]=x at hx hr
 cases x with
 | mb b=>exact ⟨b,hx,hr⟩
 | dead=>exact hr.elim
 | ro v=>exact hr.elim
 | sl v=>exact hr.elim
 | blk b=>exact hr.elim
theorem refAt_blk {i off b:Nat} {v:Value} (h:refAt env i off v) (hb:env[i]?=some (.blk b)):v = .pointer (some ⟨b,off,none⟩):=by
 simpa [refAt,hb] using h
theorem HR.amap (h:HR O env w C sh) {i:Nat} {kt vt:Nat} {es:List (A kt×A vt)} (hi:nth sh i=some (.amap kt vt es)) :
  ∃ b st,env[i]?=some (.mb b)∧MapR O env w C kt vt es st b:=by
 rw [nth_eq] at hi
 have hl:i<env.length:=by rw [← h.len]; exact (List.getElem?_eq_some_iff.1 hi).1
 have hx:env[i]?=some env[i]:=List.getElem?_eq_getElem hl
 have hr:=h.rep i _ _ hi hx
 generalize env[i]=x at hx hr
 cases x with
 | mb b=>obtain ⟨st,hr⟩:=hr; exact ⟨b,st,hx,hr⟩
 | dead=>exact hr.elim
 | ro v=>exact hr.elim
 | sl v=>exact hr.elim
 | blk b=>exact hr.elim
/-- A map's marks get names. -/
theorem HR.names (h:HR O env w C sh) {i:Nat} {kt vt:Nat} {es:List (A kt×A vt)} (hi:nth sh i=some (.amap kt vt es)) :
  ∃ st:List Int,st.Nodup∧st.length=es.length∧HR O env w C (setNth sh i (.smap kt vt es st)):=by
 obtain ⟨b,st,hb,hm⟩:=h.amap hi
 have hm':=hm
 obtain ⟨ms,clock,_,h2,h3,h4,_⟩:=hm'
 refine ⟨st,h4,by rw [h3,List.length_map,h2],?_⟩
 rw [setNth_eq]
 refine ⟨by rw [List.length_set]; exact h.len,fun j so x h5 h6=>?_,h.disj,h.out,h.lt,h.olt⟩
 by_cases e:i=j
 ·subst e
  have hl:i<sh.length:=by have:=(List.getElem?_eq_some_iff.1 h5).1; simpa using this
  rw [List.getElem?_set_self hl] at h5
  rw [hb] at h6
  cases h5; cases h6
  exact hm
 ·rw [List.getElem?_set_ne e] at h5
  exact h.rep j so x h5 h6
theorem HR.rmap (h:HR O env w C sh) {i:Nat} {kt vt:Nat} {es:List (A kt×A vt)} {st:List Int} {c:Nat} (hi:nth sh i=some (.rmap kt vt es st c)) :
  ∃ b,env[i]?=some (.mb b)∧MapRC O env w C kt vt es st c b:=by
 rw [nth_eq] at hi
 have hl:i<env.length:=by rw [← h.len]; exact (List.getElem?_eq_some_iff.1 hi).1
 have hx:env[i]?=some env[i]:=List.getElem?_eq_getElem hl
 have hr:=h.rep i _ _ hi hx
 generalize env[i]=x at hx hr
 cases x with
 | mb b=>exact ⟨b,hx,hr⟩
 | dead=>exact hr.elim
 | ro v=>exact hr.elim
 | sl v=>exact hr.elim
 | blk b=>exact hr.elim
/-- An entry of the heap is said in other words. -/
theorem HR.say (h:HR O env w C sh) {i:Nat} {x:Wit} {so:SO A} (hx:env[i]?=some x) (hr:ORep O env w C so x):HR O env w C (setNth sh i so):=by
 rw [setNth_eq]
 refine ⟨by rw [List.length_set]; exact h.len,fun j so' x' h5 h6=>?_,h.disj,h.out,h.lt,h.olt⟩
 by_cases e:i=j
 ·subst e
  have hl:i<sh.length:=by have:=(List.getElem?_eq_some_iff.1 h5).1; simpa using this
  rw [List.getElem?_set_self hl] at h5
  rw [hx] at h6
  cases h5; cases h6
  exact hr
 ·rw [List.getElem?_set_ne e] at h5
  exact h.rep j so' x' h5 h6
theorem refAt_mb {i off b:Nat} {v:Value} (h:refAt env i off v) (hb:env[i]?=some (.mb b)):v = .map (some b):=by
 simpa [refAt,hb] using h
theorem blkAt_some {i b:Nat} {P:Nat→Prop} (h:blkAt env i P) (hb:env[i]?=some (.blk b)):P b:=by
 simpa [blkAt,hb] using h
theorem slAt_some {i:Nat} {v:Value} {P:Value→Prop} (h:slAt env i P) (hb:env[i]?=some (.sl v)):P v:=by
 simpa [slAt,hb] using h
theorem alive_not_dead (h:HR O env w C sh) {i:Nat} (ha:alive sh i=true):(∃ b,env[i]?=some (.blk b))∨∃ v,env[i]?=some (.sl v):=by
 unfold alive at ha
 split at ha
 ·rename_i hi; obtain ⟨b,_,hb,_⟩:=h.cells hi; exact .inl ⟨b,hb⟩
 ·rename_i hi; obtain ⟨v,hb,_⟩:=h.ivec hi; exact .inr ⟨v,hb⟩
 ·rename_i hi; obtain ⟨v,_,hb,_⟩:=h.svec hi; exact .inr ⟨v,hb⟩
 ·cases ha
end
end Go.Eng

/-! The engine's operations are right: reads, writes and new variables. Conditions: none. -/
namespace Go.Eng
open Go
variable {A:Nat→Type}
section
variable {E:Eng A} {O:Nat→Prop} {ts:List (SV A)} {sh:List (SO A)} {env:List Wit} {a:Act} {w:World} {o:Oper} {K:Pred A}
theorem under_agg {P:Program} {t:TypeId} (h:aggT P t=true):(isAgg t).run P w = .ok true w:=by
 unfold aggT at h
 split at h
 ·rename_i e; simp [isAgg,run_underlying (under_of_desc e (by simp))]
 ·rename_i e; simp [isAgg,run_underlying (under_of_desc e (by simp))]
 ·cases h
theorem under_not {P:Program} {t:TypeId} (h:aggT P t=false) (hd:desc P t ≠ .invalid):(isAgg t).run P w = .ok false w:=by
 have hu:=under_of_desc (P:=P) (t:=t) rfl hd
 unfold isAgg
 rw [Sem.run_bind,run_underlying hu w]
 unfold aggT at h
 cases hdd:desc P t<;>simp_all
theorem run_loadVar_agg {P:Program} {t:TypeId} {b off:Nat} {vs:List Value} (h:aggT P t=true) (hs:tsize P t=vs.length) (hne:tsize P t≠0)
  (hc:∀ (j:Nat) u,vs[j]?=some u→w.cell? ⟨b,off+j,none⟩=some u):(loadVar t ⟨b,off,none⟩).run P w = .ok (.agg vs.toArray) w:=by
 obtain ⟨i,hi,hsz⟩:=info_of_tsize hs (by omega)
 have hl:=run_loadCells_list (P:=P) w ⟨b,off,none⟩ vs (fun j v hv=>by rw [Addr.add_lit]; exact hc j v hv)
 simp only [loadVar,Sem.run_bind,under_agg h,Result.andThen_ok,if_true,sizeOf,typeInfo]
 simp [hi,hsz,hl]
theorem run_loadVar_one {P:Program} {t:TypeId} {b off:Nat} {v:Value} (h:aggT P t=false) (hd:desc P t ≠ .invalid) (hc:w.cell? ⟨b,off,none⟩=some v) :
  (loadVar t ⟨b,off,none⟩).run P w = .ok v w:=by
 simp [loadVar,Sem.run_bind,under_not h hd,hc]
/-- A read of cells that lie there. -/
theorem run_rdCells {P:Program} {t:TypeId} {C:Enc A} {cs:SL A} {b o:Nat} {vs:List Value} {off:Nat} {s:SV A} (hd:desc P t ≠ .invalid) (hne:tsize P t≠0)
  (hr:RepL O env w C cs vs) (e:rdCells P t cs off=some s) :
  ∃ v,(∀ w':World,(∀ (j:Nat) u,vs[j]?=some u→w'.cell? ⟨b,o+j,none⟩=some u)→(loadVar t ⟨b,o+off,none⟩).run P w' = .ok v w')∧Rep O env w C s v:=by
 unfold rdCells at e
 split at e
 ·rename_i hg
  split at e
  ·rename_i d hsub
   cases e
   obtain ⟨h1,h2⟩:=hr.sub hsub
   refine ⟨_,fun w' hc=>run_loadVar_agg (vs:=(vs.drop off).take (tsize P t)) hg (by simp; omega) hne (fun j u hu=>?_),.agg _ h1⟩
   rw [List.getElem?_take] at hu
   split at hu
   ·rw [List.getElem?_drop] at hu
    rw [Nat.add_assoc]
    exact hc _ u hu
   ·cases hu
  ·cases e
 ·rename_i hg
  obtain ⟨v,hv,hr'⟩:=hr.one e
  exact ⟨v,fun w' hc=>run_loadVar_one (by simpa using hg) hd (hc off v hv),hr'⟩
theorem run_rdRun {P:Program} {t:TypeId} {C:Enc A} {k:IntKind} {xs:List Int} {b o j:Nat} {K':SV A→Prop}
  (hne:tsize P t≠0) (hsz:∀ n e k',desc P t = .array n e→desc P e = .int k'→tsize P t=n) (e:rdRun P t k xs j K') :
  ∃ v s,(∀ w':World,(∀ (i:Nat) u,(xs.map (Value.int k))[i]?=some u→w'.cell? ⟨b,o+i,none⟩=some u)→(loadVar t ⟨b,o+j,none⟩).run P w' = .ok v w')∧Rep O env w C s v∧K' s:=by
 unfold rdRun at e
 split at e
 ·rename_i k' hd
  split at e
  ·rename_i hk
   subst hk
   obtain ⟨hj,hK⟩:=e
   refine ⟨.int k (xs.getD j 0),_,fun w' hc=>run_loadVar_one (by simp [aggT,hd]) (by simp [hd]) (hc j _ ?_),.int,hK⟩
   simp [hj]
  ·exact e.elim
 ·rename_i n el hd
  split at e
  ·rename_i k' hde
   split at e
   ·rename_i hk
    subst hk
    obtain ⟨hj,hK⟩:=e
    have hn:=hsz n el k hd hde
    refine ⟨_,_,fun w' hc=>run_loadVar_agg (vs:=((xs.drop j).take n).map (Value.int k)) (by simp [aggT,hd]) (by simp; omega) hne (fun i u hu=>?_),.agg _ ?_,hK⟩
    ·rw [Nat.add_assoc]
     apply hc
     rw [List.getElem?_map] at hu ⊢
     rw [List.getElem?_take] at hu
     split at hu
     ·rwa [List.getElem?_drop] at hu
     ·simp at hu
    ·have:=RepL.run (O:=O) (env:=env) (w:=w) (C:=C) (k:=k) (n:=n) (xs:=(xs.drop j).take n) (by simp; omega) RepL.nil
     simpa using this
   ·exact e.elim
  ·exact e.elim
 ·exact e.elim
end
end Go.Eng

/-! The engine's operations are right: reads. Conditions: none. -/
namespace Go.Eng
open Go
variable {A:Nat→Type}
theorem okT_spec {P:Program} {t:TypeId} (h:okT P t=true):desc P t ≠ .invalid∧tsize P t≠0∧∀ n e k',desc P t = .array n e→desc P e = .int k'→tsize P t=n:=by
 unfold okT at h
 split at h
 ·cases h
 ·rename_i n e hd
  split at h
  ·split at h
   ·split at h
    ·cases h
    ·rename_i h1 h2
     refine ⟨by simp [hd],by omega,fun n' e' k' h3 _=>?_⟩
     rw [hd] at h3; cases h3; exact h1
   ·cases h
  ·rename_i hx
   split at h
   ·cases h
   ·refine ⟨by simp [hd],by assumption,fun n' e' k' h3 h4=>?_⟩
    rw [hd] at h3; cases h3; exact absurd h4 (hx k')
 ·rename_i h1 h2
  split at h
  ·cases h
  ·exact ⟨by assumption,by assumption,fun n e k' h3 _=>absurd h3 (h2 n e)⟩
section
variable {E:Eng A} {O:Nat→Prop} {ts:List (SV A)} {sh:List (SO A)} {env:List Wit} {a:Act} {w:World} {o:Oper} {K:Pred A}
theorem cell_of_cells {b:Nat} {vs:List Value} {e:TypeId} (hb:w.heap[b]?=some (.cells vs.toArray e (0,0))) (j:Nat):w.cell? ⟨b,j,none⟩=vs[j]?:=by
 rw [cell_of_row w b j vs.toArray e (0,0) hb]; simp
theorem own_some {b n c:Nat} {e:TypeId} {size m:Nat} {vs:List Value} (h:w.ownsRow 0 e size (.slice (some ⟨b,0,none⟩) n c) m vs) :
  n=m∧m≤c∧∃ cur:Array Value,w.heap[b]?=some (.cells cur e (0,0))∧cur.size=c*size∧cur.toList.take (m*size)=vs∧c≤maxLen:=by
 rcases h.2 with ⟨h1,_⟩ | ⟨g,cap,cur,h1,_,h3,h4,h5,h6,h7⟩
 ·cases h1
 ·cases h1; exact ⟨rfl,h4,cur,h3,h6,h7,h5⟩
theorem own_cell {b n c:Nat} {e:TypeId} {size m:Nat} {vs:List Value} (h:w.ownsRow 0 e size (.slice (some ⟨b,0,none⟩) n c) m vs) (j:Nat) (u:Value) (hu:vs[j]?=some u) :
  w.cell? ⟨b,j,none⟩=some u:=by
 obtain ⟨_,_,cur,hg,_,ht,_⟩:=own_some h
 rw [cell_of_row w b j cur e (0,0) hg]
 rw [← ht,List.getElem?_take] at hu
 split at hu
 ·simpa using hu
 ·cases hu
theorem Old.cell {w w':World} (h:Old w w') {a:Addr} {u:Value} (hc:w.cell? a=some u):w'.cell? a=some u:=by
 have hb:=h.same a.block (World.block_lt_of_cell? w a hc)
 simp only [World.cell?,hb] at hc ⊢
 exact hc
/-- What a read comes to. -/
theorem run_loadS {t:TypeId} {x:Operand} {K':SV A→Prop} (h:Rel E O ts sh env a w) (hk:loadS E t (evr E ts sh x) sh K') :
  ∃ ad v s,a.eval x = .pointer (some ad)∧(∀ w',Old w w'→(loadVar t ad).run E.P w' = .ok v w')∧Rep O env w E.C s v∧K' s:=by
 have hx:=evr_rep h x
 generalize evr E ts sh x=sx at hx hk
 generalize a.eval x=vx at hx ⊢
 unfold loadS at hk
 split at hk
 case isFalse=>exact hk.elim
 rename_i hok
 obtain ⟨hd,hne,harr⟩:=okT_spec hok
 split at hk
 ·rename_i i off
  split at hk
  ·rename_i e cs hi
   split at hk
   ·rename_i s hs
    obtain ⟨b,vs,hb,hc,hr⟩:=h.heap.cells hi
    have hv:=refAt_blk hx.inv_ptr hb
    obtain ⟨v,h1,h2⟩:=run_rdCells (w:=w) (b:=b) (o:=0) hd hne hr hs
    rw [Nat.zero_add] at h1
    exact ⟨_,v,s,hv,fun w' ho=>h1 w' (fun j u hu=>ho.cell (by rw [Nat.zero_add,cell_of_cells hc]; exact hu)),h2,hk⟩
   ·exact hk.elim
  ·exact hk.elim
 ·rename_i i off n j
  split at hk
  ·rename_i e cs hi
   split at hk
   ·rename_i k m xs hrun
    split at hk
    ·exact hk.elim
    ·rename_i hag
     split at hk
     ·rename_i hmn
      obtain ⟨b,vs,hb,hc,hr⟩:=h.heap.cells hi
      obtain ⟨hv,hj⟩:=blkAt_some hx.inv_aptr hb
      obtain ⟨hl,pre,post,h1,h2,h3⟩:=hr.runAt hrun
      refine ⟨_,.int k (xs.getD j 0),_,hv,fun w' ho=>run_loadVar_one (by simpa using hag) hd (ho.cell ?_),.int,hk⟩
      rw [cell_of_cells hc,h1,List.getElem?_append_right (by omega),List.getElem?_append_left (by simp; omega),h2,Nat.add_sub_cancel_left,List.getElem?_map,
       List.getElem?_eq_getElem (by omega),List.getD_eq_getElem?_getD,List.getElem?_eq_getElem (by omega)]
      rfl
     ·exact hk.elim
   ·exact hk.elim
  ·exact hk.elim
 ·rename_i k n xs off
  obtain ⟨b,o',vs,hv,hO,he,hlt,hc,hr⟩:=hx.inv_rptr
  obtain ⟨us,hn,rfl,hr'⟩:=hr.inv_run
  have hu:=hr'.inv_nil
  subst hu
  obtain ⟨v,s,h1,h2,h3⟩:=run_rdRun (w:=w) (b:=b) (o:=o') (C:=E.C) (O:=O) (env:=env) hne harr hk
  exact ⟨_,v,s,hv,fun w' ho=>h1 w' (fun i u hu=>ho.cell (hc i u (by simpa using hu))),h2,h3⟩
 ·rename_i cs off hno
  split at hk
  ·rename_i s hs
   obtain ⟨b,o',vs,hv,hO,he,hlt,hc,hr⟩:=hx.inv_rptr
   obtain ⟨v,h1,h2⟩:=run_rdCells (w:=w) (b:=b) (o:=o') hd hne hr hs
   exact ⟨_,v,s,hv,fun w' ho=>h1 w' (fun i u hu=>ho.cell (hc i u hu)),h2,hk⟩
  ·exact hk.elim
 ·rename_i i j size off
  split at hk
  ·rename_i e k xs hi
   split at hk
   ·rename_i hag
    split at hk
    case h_2=>exact hk.elim
    rename_i n e0 hd0
    split at hk
    case h_2=>exact hk.elim
    rename_i k' hd1
    split at hk
    case isFalse=>exact hk.elim
    rename_i hkk
    split at hk
    case isFalse=>exact hk.elim
    rename_i hs1
    split at hk
    case isFalse=>exact hk.elim
    rename_i ho
    obtain ⟨hj,hK⟩:=hk
    obtain ⟨v,hv,hown⟩:=h.heap.ivec hi
    obtain ⟨b,n',c,hv1,hv2⟩:=slAt_some hx.inv_vptr hv
    subst hv1; subst hs1; subst ho; subst hkk
    have hts:=harr n e0 k hd0 hd1
    have hlen:(((xs.drop j).take n).map (Value.int k)).length=n:=by simp; omega
    refine ⟨_,.agg (((xs.drop j).take n).map (Value.int k)).toArray,_,hv2,fun w' ho=>run_loadVar_agg (vs:=((xs.drop j).take n).map (Value.int k)) hag (by rw [hts,hlen]) hne (fun i u hu=>ho.cell (own_cell hown _ _ ?_)),.agg _ (by
     have:=RepL.run (O:=O) (env:=env) (w:=w) (C:=E.C) (k:=k) (n:=n) (xs:=(xs.drop j).take n) (by simp; omega) .nil
     rwa [List.append_nil] at this),hK⟩
    rw [List.getElem?_map,List.getElem?_take] at hu
    split at hu
    ·rw [List.getElem?_drop] at hu
     rw [List.getElem?_map,Nat.mul_one,Nat.add_zero]
     exact hu
    ·simp at hu
   ·rename_i hag
    split at hk
    ·rename_i hs1
     split at hk
     ·rename_i ho
      obtain ⟨hj,hK⟩:=hk
      obtain ⟨v,hv,hown⟩:=h.heap.ivec hi
      obtain ⟨b,n,c,hv1,hv2⟩:=slAt_some hx.inv_vptr hv
      subst hv1; subst hs1; subst ho
      refine ⟨_,.int k (xs.getD j 0),_,hv2,fun w' ho=>run_loadVar_one (by simpa using hag) hd (ho.cell (own_cell hown _ _ ?_)),.int,hK⟩
      simp [hj]
     ·exact hk.elim
    ·exact hk.elim
  ·rename_i e xs hi
   split at hk
   ·rename_i hsz
    obtain ⟨hj,hK⟩:=hk
    have hK:=hK xs[j] (List.getElem?_eq_getElem hj)
    split at hK
    ·rename_i s hs
     obtain ⟨v,vs,hv,hown,hrows⟩:=h.heap.svec hi
     obtain ⟨b,n,c,hv1,hv2⟩:=slAt_some hx.inv_vptr hv
     subst hv1
     have hr:=hrows j _ (List.getElem?_eq_getElem hj)
     obtain ⟨v,h1,h2⟩:=run_rdCells (w:=w) (b:=b) (o:=j*E.C.size e) hd hne hr hs
     rw [hsz] at hv2
     exact ⟨_,v,s,hv2,fun w' ho=>h1 w' (fun i u hu=>ho.cell (own_cell hown _ _ (by
      rw [List.getElem?_take] at hu
      split at hu
      ·rwa [List.getElem?_drop] at hu
      ·cases hu))),h2,hK⟩
    ·exact hK.elim
   ·exact hk.elim
  ·exact hk.elim
 ·exact hk.elim
theorem op_load {t:TypeId} {x:Operand} (ho:o.op = .load t x) (h:Rel E O ts sh env a w) (hk:loadS E t (evr E ts sh x) sh fun v=>K v sh):OpOK E O o sh env a w K:=by
 obtain ⟨ad,v,s,hx,h1,h2,h3⟩:=run_loadS h hk
 exact opOK_same (v:=v) (by simp only [execOp,ho,hx,Instr.loadAt,Instr.sureAddr]; simp [h1 w (Old.refl _)]) h2 h h3
end
end Go.Eng

/-! The engine's operations are right: writes. Conditions: none. -/
namespace Go.Eng
open Go
variable {A:Nat→Type}
section
variable {O:Nat→Prop} {env:List Wit} {w:World} {C:Enc A} {sh:List (SO A)}
theorem step_setRow {i b:Nat} {x:Wit} (hx:env[i]?=some x) (hb:x.owns b) (cs:Array Value):Step env w env (w.setRow b cs):=
 ⟨rfl,rfl,rfl,by simp,Nat.le_refl _,fun _ x h=>⟨x,h,.refl x⟩,fun _ h => .inl h,fun b' _ hn=>setRow_other w b b' cs (fun e=>hn (e▸⟨i,x,hx,hb⟩))⟩
/-- An entry's memory is written, and it stays where it is. -/
theorem HR.set (h:HR O env w C sh) {i b:Nat} {x:Wit} {so:SO A} (hx:env[i]?=some x) (hb:x.owns b) (cs:Array Value)
  (hr:ORep O env (w.setRow b cs) C so x):HR O env (w.setRow b cs) C (sh.set i so) where
 len:=by simp [h.len]
 rep:=fun j so' x' h1 h2=>by
  by_cases e:i=j
  ·subst e
   have hl:i<sh.length:=by have:=(List.getElem?_eq_some_iff.1 h1).1; simpa using this
   rw [List.getElem?_set_self hl] at h1
   rw [hx] at h2
   cases h1; cases h2
   exact hr
  ·rw [List.getElem?_set_ne e] at h1
   refine (h.rep j so' x' h1 h2).step (step_setRow hx hb cs) (fun b' hb'=>setRow_other w b b' cs (fun e'=>?_))
   subst e'
   exact e (h.disj i j x x' b' hx h2 hb hb')
 disj:=h.disj
 out:=h.out
 lt:=fun b' hb'=>by simpa using h.lt b' hb'
 olt:=fun b' hb'=>by simpa using h.olt b' hb'
/-- A store of cells into a block. -/
theorem run_storeVar {P:Program} {t:TypeId} {b off:Nat} {v:Value} {e:TypeId} {vs:List Value} (hsz:tsize P t=v.cells.size) (hne:tsize P t≠0) (hb:w.heap[b]?=some (.cells vs.toArray e (0,0)))
  (hfit:off+v.cells.size≤vs.length) (h1:∀ u∈v.cells.toList,u.oneCell'=true) :
  (storeVar t ⟨b,off,none⟩ v).run P w = .ok () (w.setRow b (vs.take off++v.cells.toList++vs.drop (off+v.cells.size)).toArray):=by
 obtain ⟨i,hi,hs⟩:=info_of_tsize hsz (by omega)
 have hst:=run_storeCells_at P b off e v.cells.toList 0 vs.toArray w hb (by simpa using hfit) h1
 simp only [Nat.add_zero] at hst
 simp only [storeVar,Sem.run_bind,sizeOf,typeInfo]
 simp [hi,hs,hst]
end
section
variable {E:Eng A} {O:Nat→Prop} {ts:List (SV A)} {sh:List (SO A)} {env:List Wit} {a:Act} {w:World} {o:Oper} {K:Pred A} {C:Enc A}
theorem live_ptr (hh:HR O env w C sh) {i off:Nat} {v:Value} (h1:alive sh i=true) (h:refAt env i off v):∃ b,env[i]?=some (.blk b)∧v = .pointer (some ⟨b,off,none⟩):=by
 rcases alive_not_dead hh h1 with ⟨b,hb⟩ | ⟨u,hb⟩
 ·exact ⟨b,hb,refAt_blk h hb⟩
 ·simp [refAt,hb] at h
theorem live_blk (hh:HR O env w C sh) {i:Nat} {P:Nat→Prop} (h1:alive sh i=true) (h:blkAt env i P):∃ b,env[i]?=some (.blk b)∧P b:=by
 rcases alive_not_dead hh h1 with ⟨b,hb⟩ | ⟨u,hb⟩
 ·exact ⟨b,hb,blkAt_some h hb⟩
 ·simp [blkAt,hb] at h
theorem live_map (hh:HR O env w C sh) {i off:Nat} {v:Value} (h1:aliveM sh i=true) (h:refAt env i off v):∃ b,env[i]?=some (.mb b)∧v = .map (some b):=by
 unfold aliveM at h1
 split at h1
 ·rename_i hi
  obtain ⟨b,hb,_⟩:=hh.smap hi
  exact ⟨b,hb,refAt_mb h hb⟩
 ·rename_i hi
  obtain ⟨b,_,hb,_⟩:=hh.amap hi
  exact ⟨b,hb,refAt_mb h hb⟩
 ·rename_i hi
  obtain ⟨b,hb,_⟩:=hh.rmap hi
  exact ⟨b,hb,refAt_mb h hb⟩
 ·cases h1
theorem live_vec (hh:HR O env w C sh) {i:Nat} {P:Value→Prop} (h1:alive sh i=true) (h:slAt env i P):∃ v,env[i]?=some (.sl v)∧P v∧(v = .slice none 0 0∨∃ g n c,v = .slice (some ⟨g,0,none⟩) n c):=by
 rcases alive_not_dead hh h1 with ⟨b,hb⟩ | ⟨u,hb⟩
 ·simp [slAt,hb] at h
 ·refine ⟨u,hb,slAt_some h hb,?_⟩
  unfold alive at h1
  split at h1
  ·rename_i hi; obtain ⟨b,_,hb',_⟩:=hh.cells hi; rw [hb] at hb'; cases hb'
  ·rename_i hi; obtain ⟨u',hb',ho⟩:=hh.ivec hi; rw [hb] at hb'; cases hb'
   rcases ho.2 with ⟨h2,_⟩ | ⟨g,cap,cur,h2,_⟩
   ·exact .inl h2
   ·exact .inr ⟨_,_,_,h2⟩
  ·rename_i hi; obtain ⟨u',_,hb',ho,_⟩:=hh.svec hi; rw [hb] at hb'; cases hb'
   rcases ho.2 with ⟨h2,_⟩ | ⟨g,cap,cur,h2,_⟩
   ·exact .inl h2
   ·exact .inr ⟨_,_,_,h2⟩
  ·cases h1
theorem oneCell_alive {s:SV A} {v:Value} (hh:HR O env w C sh) (h1:oneCell sh s=true) (h:Rep O env w C s v):v.oneCell'=true∧v.cells=#[v]:=by
 cases s
 case junk | undef | aptr | asl | rptr | vptr | agg | tup | rful=>simp [oneCell] at h1
 case int=>rw [h.inv_int]; exact ⟨rfl,rfl⟩
 case lit=>rw [h.inv_lit]; exact ⟨rfl,rfl⟩
 case bl=>rw [h.inv_bl]; exact ⟨rfl,rfl⟩
 case sb=>rw [h.inv_sb]; exact ⟨rfl,rfl⟩
 case val u=>rw [h.inv_val]; cases u<;>first | exact ⟨rfl,rfl⟩ | simp [oneCell] at h1
 case ptr=>
  simp only [oneCell] at h1
  split at h1
  ·rename_i h2; obtain ⟨b,_,hv⟩:=live_ptr hh h2 h.inv_ptr; rw [hv]; exact ⟨rfl,rfl⟩
  ·obtain ⟨b,_,hv⟩:=live_map hh h1 h.inv_ptr; rw [hv]; exact ⟨rfl,rfl⟩
 case vec=>obtain ⟨u,_,hv,h2 | ⟨_,_,_,h2⟩⟩:=live_vec hh h1 h.inv_vec<;>rw [hv,h2]<;>exact ⟨rfl,rfl⟩
 case rints=>obtain ⟨_,_,hv,_⟩:=h.inv_rints; rw [hv]; exact ⟨rfl,rfl⟩
 case rseq=>obtain ⟨_,_,_,hv,_⟩:=h.inv_rseq; rw [hv]; exact ⟨rfl,rfl⟩
 case iface=>obtain ⟨_,hv,_⟩:=h.inv_iface; rw [hv]; exact ⟨rfl,rfl⟩
 case fn=>obtain ⟨_,_,hv,_⟩:=h.inv_fn; rw [hv]; exact ⟨rfl,rfl⟩
 case err=>rcases h.inv_err with ⟨_,hv⟩ | ⟨_,hv⟩<;>rw [hv]<;>exact ⟨rfl,rfl⟩
theorem storable_cells (hh:HR O env w C sh):∀ {cs:SL A} {vs:List Value},storable sh cs=true→RepL O env w C cs vs→∀ u∈vs,u.oneCell'=true
 | .nil,_,_,h=>by rw [h.inv_nil]; simp
 | .cell s r,_,hs,h=>by
  obtain ⟨u,us,rfl,h1,h2⟩:=h.inv_cell
  simp only [storable] at hs
  split at hs
  case isFalse=>cases hs
  rename_i hs1
  intro x hx
  rcases List.mem_cons.1 hx with e | hx
  ·subst e; exact (oneCell_alive hh hs1 h1).1
  ·exact storable_cells hh hs h2 x hx
 | .run k n xs r,_,hs,h=>by
  obtain ⟨us,hn,rfl,hr⟩:=h.inv_run
  simp only [storable] at hs
  intro x hx
  rcases List.mem_append.1 hx with hx | hx
  ·obtain ⟨y,_,rfl⟩:=List.mem_map.1 hx; rfl
  ·exact storable_cells hh hs hr x hx
theorem rep_toSL (hh:HR O env w C sh) {s:SV A} {cs:SL A} {v:Value} (e:toSL sh s=some cs) (h:Rep O env w C s v) :
  RepL O env w C cs v.cells.toList∧∀ u∈v.cells.toList,u.oneCell'=true:=by
 unfold toSL at e
 split at e
 ·split at e
  ·rename_i hs
   cases e
   obtain ⟨us,rfl,hr⟩:=h.inv_agg
   have hr:=rep_rslL hh hr
   exact ⟨hr,storable_cells hh hs hr⟩
  ·cases e
 ·split at e
  ·rename_i h1
   cases e
   obtain ⟨h2,h3⟩:=oneCell_alive hh h1 h
   rw [h3]
   exact ⟨.cell h .nil,by simpa using h2⟩
  ·cases e
/-- What a store comes to. -/
theorem op_store {t:TypeId} {x y:Operand} (ho:o.op = .store t x y) (h:Rel E O ts sh env a w) (hk:storeS E t (evr E ts sh x) (evr E ts sh y) sh fun sh'=>K .undef sh'):OpOK E O o sh env a w K:=by
 have hx:=evr_rep h x
 have hy:=evr_rep h y
 have key:∀ (ad:Addr) (w':World) sh',a.eval x = .pointer (some ad)→(storeVar t ad (a.eval y)).run E.P w = .ok () w'→HR O env w' E.C sh'→Step env w env w'→K .undef sh'→OpOK E O o sh env a w K:=by
  intro ad w' sh' hv hrun hh hs hK next Q hn
  unfold Oper.wp
  have:(execOp a.eval o).run E.P w = .ok .skip w':=by
   simp only [execOp,ho,hv,Instr.storeAt,Instr.sureAddr]
   simp [hrun]
  rw [this]
  exact hn _ _ _ _ _ .undef hh hs (fun hq=>by simp [quietOp,ho] at hq) hK
 generalize evr E ts sh x=sx at hx hk
 generalize evr E ts sh y=sy at hy hk
 generalize a.eval x=vx at hx key
 generalize a.eval y=vy at hy key
 unfold storeS at hk
 split at hk
 ·rename_i i off
  split at hk
  ·rename_i e cs hi
   split at hk
   ·rename_i d hd
    split at hk
    ·rename_i hlen
     split at hk
     ·exact hk.elim
     ·rename_i hne
      split at hk
      ·rename_i cs' hput
       obtain ⟨b,vs,hb,hc,hr⟩:=h.heap.cells hi
       have hv:=refAt_blk hx.inv_ptr hb
       obtain ⟨hrd,hone⟩:=rep_toSL h.heap hd hy
       obtain ⟨hr2,hfit⟩:=hr.put hrd hput
       have hsz:tsize E.P t=vy.cells.size:=by rw [← hlen,← hrd.length]; simp
       have hrun:=run_storeVar (P:=E.P) (w:=w) (off:=off) hsz hne hc (by simpa using hfit) hone
       rw [setNth_eq] at hk
       refine key _ _ _ hv hrun (h.heap.set hb rfl _ ?_) (step_setRow hb rfl _) hk
       refine ⟨_,setRow_heap w b _ _ e (0,0) hc,?_⟩
       simp only [Array.length_toList] at hr2
       exact hr2.step (step_setRow hb rfl _)
      ·exact hk.elim
    ·exact hk.elim
   ·exact hk.elim
  ·exact hk.elim
 ·rename_i i off m j
  split at hk
  ·rename_i e cs hi
   split at hk
   ·rename_i k m' xs k' n l hrun hn
    split at hk
    ·rename_i hkk
     split at hk
     ·rename_i hsz
      split at hk
      ·rename_i hm
       subst hkk; subst hm
       have hk:=hk _ rfl
       obtain ⟨b,vs,hb,hc,hr⟩:=h.heap.cells hi
       obtain ⟨hv,hj⟩:=blkAt_some hx.inv_aptr hb
       have hvy:=rep_asInt hn hy
       subst hvy
       obtain ⟨hl,pre,post,h1,h2,h3⟩:=hr.runAt hrun
       have hrs:=run_storeVar (P:=E.P) (w:=w) (off:=off+j) (v := .int k n) (by rw [hsz]; rfl) (by omega) hc (by rw [h1]; simp [Value.cells]; omega) (by simp [Value.cells,Value.oneCell'])
       rw [setNth_eq] at hk
       refine key _ _ _ hv hrs (h.heap.set hb rfl _ ?_) (step_setRow hb rfl _) hk
       refine ⟨_,setRow_heap w b _ _ e (0,0) hc,?_⟩
       have h4:=h3 (xs.set j n) (by simp [hl])
       have e5:vs.take (off+j)++(Value.int k n).cells.toList++vs.drop (off+j+(Value.int k n).cells.size)=pre++((xs.set j n).map (Value.int k)++post):=by
        subst h1
        rw [← h2]
        simp only [Value.cells]
        rw [List.take_append,List.take_of_length_le (by omega),Nat.add_sub_cancel_left,List.take_append_of_le_length (by simp; omega)]
        rw [List.drop_append,List.drop_of_length_le (by omega),List.nil_append]
        rw [show pre.length+j+(#[Value.int k n]:Array Value).size-pre.length=j+1 from by simp; omega]
        rw [List.drop_append_of_le_length (by simp; omega)]
        rw [List.map_set,List.set_eq_take_append_cons_drop,if_pos (by simp; omega)]
        simp
       rw [e5]
       exact h4.step (step_setRow hb rfl _)
      ·exact hk.elim
     ·exact hk.elim
    ·exact hk.elim
   ·exact hk.elim
  ·exact hk.elim
 ·rename_i i j size off
  split at hk
  ·rename_i e k xs hi
   split at hk
   ·rename_i k' n l hn
    split at hk
    ·rename_i hkk
     split at hk
     ·rename_i hsz
      split at hk
      ·rename_i hs1
       split at hk
       ·rename_i hoff
        obtain ⟨hj,hk⟩:=hk
        subst hkk; subst hs1; subst hoff
        have hk:=hk _ rfl
        obtain ⟨u,hu,hown⟩:=h.heap.ivec hi
        obtain ⟨b,n',c,hv1,hv2⟩:=slAt_some hx.inv_vptr hu
        subst hv1
        obtain ⟨e1,e2,cur,hg,hcs,htake,hcm⟩:=own_some hown
        have hvy:=rep_asInt hn hy
        subst hvy
        subst e1
        have hg':w.heap[b]?=some (.cells cur.toList.toArray e (0,0)):=by simpa using hg
        have hrs:=run_storeVar (P:=E.P) (w:=w) (off:=j*1+0) (v := .int k n) (by rw [hsz]; rfl) (by omega) hg' (by simp [Value.cells]; omega) (by simp [Value.cells,Value.oneCell'])
        rw [setNth_eq] at hk
        refine key _ _ _ hv2 hrs (h.heap.set hu (by simp [Wit.owns,Value.ownBlock]) _ ?_) (step_setRow hu (by simp [Wit.owns,Value.ownBlock]) _) hk
        refine ⟨by simp,.inr ⟨b,c,_,by simp,Nat.zero_le _,setRow_heap w b _ _ e (0,0) hg,by simpa using e2,hcm,?_,?_⟩⟩
        ·simp [Value.cells]; omega
        ·simp only [Value.cells,Nat.mul_one,Nat.add_zero,List.length_set] at htake ⊢
         rw [List.map_set,← htake,← List.take_set,List.set_eq_take_append_cons_drop,if_pos (by simp; omega)]
         simp
       ·exact hk.elim
      ·exact hk.elim
     ·exact hk.elim
    ·exact hk.elim
   ·exact hk.elim
  ·exact hk.elim
 ·exact hk.elim
end
end Go.Eng

/-! The engine's operations are right: new variables and what is written out. Conditions: none. -/
namespace Go.Eng
open Go
variable {A:Nat→Type}
theorem run_mapM_list {P:Program} {w:World} {α β:Type} (f:α→Sem β) (g:α→β):∀ (l:List α),(∀ x∈l,(f x).run P w = .ok (g x) w)→(l.mapM f).run P w = .ok (l.map g) w
 | [],_=>by simp
 | x::l,h=>by
  have ih:=run_mapM_list (P:=P) (w:=w) f g l (fun y hy=>h y (List.mem_cons_of_mem _ hy))
  simp [List.mapM_cons,h x (List.mem_cons_self),ih]
theorem run_mapM_array {P:Program} {w:World} {α β:Type} (f:α→Sem β) (g:α→β) (l:Array α) (h:∀ x∈l.toList,(f x).run P w = .ok (g x) w):(l.mapM f).run P w = .ok (l.map g) w:=by
 rw [Array.mapM_eq_mapM_toList,Sem.run_map,run_mapM_list f g l.toList h]
 simp only [Result.andThen_ok]
 rw [← Array.toList_map,Array.toArray_toList]
/-- Cells laid over others, one by one. -/
theorem foldl_put':∀ (vs pre old post:List Value) (o k:Nat) (cs:Array Value),cs.toList=pre++(old++post)→pre.length=o+k→old.length=vs.length →
  ((vs.zipIdx k).foldl (fun cs (x:Value×Nat)=>cs.setIfInBounds (o+x.2) x.1) cs).toList=pre++(vs++post)
 | [],pre,old,post,o,k,cs,h,_,h2=>by
  have:old=[]:=List.eq_nil_of_length_eq_zero h2
  simp [h,this]
 | v::vs,pre,[],post,o,k,cs,h,_,h2=>by simp at h2
 | v::vs,pre,x::old,post,o,k,cs,h,h1,h2=>by
  simp only [List.zipIdx_cons,List.foldl_cons]
  have ih:=foldl_put' vs (pre++[v]) old post o (k+1) (cs.setIfInBounds (o+k) v) (by
   simp only [Array.toList_setIfInBounds,h]
   rw [← h1,List.set_append,if_neg (by omega),Nat.sub_self]
   simp) (by simp; omega) (by simpa using h2)
  rw [ih]
  simp
theorem foldl_put (vs:List Value) (o:Nat) (cs:Array Value) (h:o+vs.length≤cs.size) :
  ((vs.zipIdx 0).foldl (fun cs (x:Value×Nat)=>cs.setIfInBounds (o+x.2) x.1) cs).toList=cs.toList.take o++(vs++cs.toList.drop (o+vs.length)):=by
 refine foldl_put' vs (cs.toList.take o) ((cs.toList.drop o).take vs.length) (cs.toList.drop (o+vs.length)) o 0 cs ?_ (by simp; omega) (by simp; omega)
 rw [← List.drop_drop,List.take_append_drop,List.take_append_drop]
section
variable {E:Eng A} {O:Nat→Prop} {ts:List (SV A)} {sh:List (SO A)} {env:List Wit} {a:Act} {w:World} {o:Oper} {K:Pred A} {C:Enc A}
theorem nilLike_eq {x y:Value} (h:isNilLike x y=true):x=y:=by
 unfold isNilLike at h
 split at h
 case h_6=>
  rename_i p q
  simp only [Bool.and_eq_true,beq_iff_eq] at h
  have h1:p=ByteArray.empty:=by
   apply ByteArray.ext; apply Array.eq_empty_of_size_eq_zero; exact h.1
  have h2:q=ByteArray.empty:=by
   apply ByteArray.ext; apply Array.eq_empty_of_size_eq_zero; exact h.2
  rw [h1,h2]
 all_goals first | rfl | cases h
theorem zerosN_spec {k:IntKind}:∀ {n:Nat} {vs us:List Value},zerosN k n vs=some us→vs=(List.replicate n (0:Int)).map (Value.int k)++us
 | 0,vs,us,h=>by simp [zerosN] at h; simp [h]
 | n+1,[],us,h=>by simp [zerosN] at h
 | n+1,v::vs,us,h=>by
  cases v<;>simp [zerosN] at h
  obtain ⟨rfl,rfl,h⟩:=h
  rw [zerosN_spec h]
  simp [List.replicate_succ]
/-- The zero cells are what they are held against. The runs' numbers are asked apart. -/
def zeroRuns:SL A→Prop
 | .nil=>True
 | .cell _ r=>zeroRuns r
 | .run _ n xs r=>xs=List.replicate n 0∧zeroRuns r
theorem chkZ_spec:∀ {cs:SL A} {vs:List Value},zeroRuns cs→chkZ cs vs=true→RepL O env w C cs vs
 | .nil,[],_,_ => .nil
 | .nil,_::_,_,h=>by simp [chkZ] at h
 | .cell s r,[],_,h=>by cases s<;>simp [chkZ] at h
 | .cell s r,v::vs,hz,h=>by
  cases s<;>try (simp [chkZ] at h; done)
  case lit k n=>
   cases v<;>simp [chkZ] at h
   obtain ⟨rfl,rfl,h⟩:=h
   exact .cell .lit (chkZ_spec hz h)
  case bl b=>
   cases v<;>simp [chkZ] at h
   obtain ⟨rfl,h⟩:=h
   exact .cell .bl (chkZ_spec hz h)
  case val u=>
   simp only [chkZ] at h
   split at h
   ·rename_i h1
    have:=nilLike_eq h1
    subst this
    exact .cell .val (chkZ_spec hz h)
   ·cases h
 | .run k n xs r,vs,hz,h=>by
  simp only [chkZ] at h
  split at h
  ·rename_i us hu
   rw [zerosN_spec hu,← hz.1]
   exact .run (by rw [hz.1]; simp) (chkZ_spec hz.2 h)
  ·cases h
theorem zeroRuns_app:∀ {x y:SL A},zeroRuns x→zeroRuns y→zeroRuns (x.app y)
 | .nil,_,_,h=>h
 | .cell _ r,_,h,k=>by simp only [SL.app,zeroRuns]; exact zeroRuns_app (x:=r) h k
 | .run _ _ _ r,_,h,k=>by simp only [SL.app,zeroRuns]; exact ⟨h.1,zeroRuns_app (x:=r) h.2 k⟩
theorem zeroRuns_rep:∀ {n:Nat} {x:SL A},zeroRuns x→zeroRuns (repSL n x)
 | 0,_,_=>trivial
 | _+1,_,h=>zeroRuns_app h (zeroRuns_rep h)
mutual
theorem zeroSL_runs {P:Program}:∀ {d:Nat} {t:TypeId} {x:SL A},zeroSL P d t=some x→zeroRuns x
 | 0,_,_,h=>by simp [zeroSL] at h
 | d+1,t,x,h=>by
  simp only [zeroSL] at h
  split at h<;>first | (cases h; done) | (cases h; trivial) | skip
  ·split at h
   ·cases h; exact ⟨rfl,trivial⟩
   ·split at h
    ·rename_i y hy
     cases h; exact zeroRuns_rep (zeroSL_runs hy)
    ·cases h
  ·exact zeroFs_runs h
theorem zeroFs_runs {P:Program}:∀ {d:Nat} {fs:List Field} {x:SL A},zeroFs P d fs=some x→zeroRuns x
 | _,[],_,h=>by simp [zeroFs] at h; rw [← h]; trivial
 | 0,_::_,_,h=>by simp [zeroFs] at h
 | d+1,f::fs,x,h=>by
  simp only [zeroFs] at h
  split at h
  ·rename_i y hy
   split at h
   ·rename_i z hz
    cases h; exact zeroRuns_app (zeroSL_runs hy) (zeroFs_runs hz)
   ·cases h
  ·cases h
end
theorem tyZero_spec {P:Program} {t:TypeId} {cs:SL A} (h:tyZero P t=some cs):∃ i z,P.info? t=some i∧i.zero=some z∧∀ (O:Nat→Prop) (env:List Wit) (w:World) (C:Enc A),RepL O env w C cs z.cells.toList:=by
 unfold tyZero at h
 split at h
 ·rename_i i hi
  split at h
  ·rename_i z hz
   split at h
   ·rename_i x hx
    split at h
    ·rename_i hc
     cases h
     exact ⟨i,z,hi,hz,fun _ _ _ _=>chkZ_spec (zeroSL_runs hx) hc⟩
    ·cases h
   ·cases h
  ·cases h
 ·cases h
theorem rep_ptr_new (h:HR O env w C sh) (b:Nat) (w':World):Rep O (env++[.blk b]) w' C (.ptr (cnt sh) 0:SV A) (.pointer (some ⟨b,0,none⟩)):=by
 refine .ptr ?_
 rw [cnt_eq,h.len]
 simp [refAt]
theorem op_alloc {t:TypeId} (ho:o.op = .alloc t) (h:Rel E O ts sh env a w) (hk:stepOp E (.alloc t) ts sh K):OpOK E O o sh env a w K:=by
 simp only [stepOp] at hk
 split at hk
 ·rename_i cs hz
  obtain ⟨i,z,hi,hiz,hr⟩:=tyZero_spec hz
  obtain ⟨h1,h2⟩:=h.heap.new t cs z.cells.toList (hr O env w E.C)
  rw [snoc_eq] at hk
  rw [Array.toArray_toList] at h1 h2
  refine opOK_of_run (v := .pointer (some ⟨w.heap.size,0,none⟩)) ?_ (rep_ptr_new h.heap _ _) h1 h2 (fun _=>Old.alloc _ _) hk
  simp [execOp,ho,Instr.alloc,zeroValue,typeInfo,hi,hiz,newVar,newRow]
 ·exact hk.elim
theorem op_box {t:TypeId} {x:Operand} (ho:o.op = .box t x) (h:Rel E O ts sh env a w) (hk:stepOp E (.box t x) ts sh K):OpOK E O o sh env a w K:=by
 simp only [stepOp] at hk
 have hx:=evr_rep h x
 split at hk
 ·rename_i cs hz
  obtain ⟨hr,_⟩:=rep_toSL h.heap hz hx
  obtain ⟨h1,h2⟩:=h.heap.new t cs _ hr
  rw [snoc_eq] at hk
  rw [Array.toArray_toList] at h1 h2
  refine opOK_of_run (v := .pointer (some ⟨w.heap.size,0,none⟩)) ?_ (rep_ptr_new h.heap _ _) h1 h2 (fun _=>Old.alloc _ _) hk
  simp [execOp,ho,Instr.box,newVar,newRow]
 ·exact hk.elim
end
end Go.Eng

/-! The engine's operations are right: structs and arrays written out, places, parts. Conditions: none. -/
namespace Go.Eng
open Go
variable {A:Nat→Type}
section
variable {E:Eng A} {O:Nat→Prop} {ts:List (SV A)} {sh:List (SO A)} {env:List Wit} {a:Act} {w:World} {o:Oper} {K:Pred A} {C:Enc A}
theorem fillS_spec {P:Program} {place:Nat→Option (Nat×Nat)} (hh:HR O env w C sh):∀ {parts:List (Nat×SV A)} {vparts:List (Nat×Value)} {cs x:SL A} {cells:Array Value},
  (∀ (j:Nat) i s,parts[j]?=some (i,s)→∃ v,vparts[j]?=some (i,v)∧Rep O env w C s v)→parts.length=vparts.length→RepL O env w C cs cells.toList→fillS P place sh cs parts=some x →
  ∃ cells',Instr.fill place cells vparts=some cells'∧RepL O env w C x cells'.toList
 | [],[],cs,x,cells,_,_,hr,h=>by
  simp [fillS] at h
  subst h
  exact ⟨cells,rfl,hr⟩
 | [],_::_,_,_,_,_,hl,_,_=>by simp at hl
 | _::_,[],_,_,_,_,hl,_,_=>by simp at hl
 | (i,s)::parts,(i',v)::vparts,cs,x,cells,hp,hl,hr,h=>by
  obtain ⟨v',hv',hrv⟩:=hp 0 i s rfl
  simp only [List.getElem?_cons_zero,Option.some.injEq,Prod.mk.injEq] at hv'
  obtain ⟨rfl,rfl⟩:=hv'
  simp only [fillS] at h
  split at h
  ·rename_i off size d hpl hd
   split at h
   ·rename_i hlen
    split at h
    ·rename_i cs' hput
     obtain ⟨hrd,_⟩:=rep_toSL hh hd hrv
     obtain ⟨hr2,hfit⟩:=hr.put hrd hput
     have hsz:v.cells.size=size:=by rw [← hlen,← hrd.length]; simp
     simp only [Array.length_toList] at hfit hr2
     have hfp:=foldl_put v.cells.toList off cells (by simpa using hfit)
     simp only [Array.length_toList] at hfp
     have hr3:RepL O env w C cs' ((v.cells.toList.zipIdx 0).foldl (fun cs (x:Value×Nat)=>cs.setIfInBounds (off+x.2) x.1) cells).toList:=by
      rw [hfp,← List.append_assoc]; exact hr2
     obtain ⟨cells',h5,h6⟩:=fillS_spec (place:=place) hh (parts:=parts) (vparts:=vparts) (fun j i s hj=>by
      obtain ⟨v,h7,h8⟩:=hp (j+1) i s (by simpa using hj)
      exact ⟨v,by simpa using h7,h8⟩) (by simpa using hl) hr3 h
     refine ⟨cells',?_,h6⟩
     simp only [Instr.fill,hpl]
     rw [if_neg (by simp [hsz]; omega)]
     rw [← h5]
     congr 1
     rw [← Array.foldl_toList,Array.toList_zipIdx]
    ·cases h
   ·cases h
  ·cases h
theorem parts_rep {l:List (Nat×Operand)} (h:Rel E O ts sh env a w) (j:Nat) (i:Nat) (s:SV A) (hj:(l.map fun p=>(p.1,evr E ts sh p.2))[j]?=some (i,s)) :
  ∃ v,(l.map fun p=>(p.1,a.eval p.2))[j]?=some (i,v)∧Rep O env w E.C s v:=by
 rw [List.getElem?_map] at hj ⊢
 cases hp:l[j]? with
 | none=>rw [hp] at hj; cases hj
 | some p=>
  rw [hp] at hj
  simp only [Option.map_some,Option.some.injEq,Prod.mk.injEq] at hj
  obtain ⟨rfl,rfl⟩:=hj
  exact ⟨_,rfl,evr_rep h p.2⟩
theorem sizedAll_spec {P:Program}:∀ {l:List Field},sizedAll P l=true→∀ f∈l,tsize P f.type≠0
 | [],_,_,h=>by cases h
 | g::l,h,f,hf=>by
  simp only [sizedAll] at h
  split at h
  ·cases h
  ·rename_i h1
   rcases List.mem_cons.1 hf with e | hf
   ·subst e; exact h1
   ·exact sizedAll_spec h f hf
/-- A struct or an array is written out over zeros. -/
theorem run_fill {t:TypeId} {ps:Array (Nat×Operand)} {z cs:SL A} (h:Rel E O ts sh env a w) (hok:buildOk E.P t=true) (hz:tyZero E.P t=some z)
  (hf:fillS E.P (placeOf E.P t) sh z (ps.toList.map fun p=>(p.1,evr E ts sh p.2))=some cs) :
  ∃ cells':Array Value,(Instr.build t (ps.map fun p=>(p.1,a.eval p.2))).run E.P w = .ok (.agg cells') w∧RepL O env w E.C cs cells'.toList:=by
 obtain ⟨i,zv,hi,hiz,hr⟩:=tyZero_spec hz
 obtain ⟨cells',h1,h2⟩:=fillS_spec h.heap (vparts:=ps.toList.map fun p=>(p.1,a.eval p.2)) (fun j i s hj=>parts_rep h j i s hj) (by simp) (hr O env w E.C) hf
 refine ⟨cells',?_,h2⟩
 have hz0:(zeroValue t).run E.P w = .ok zv w:=by simp [zeroValue,typeInfo,hi,hiz]
 simp only [Instr.build,Sem.run_bind,hz0,Result.andThen_ok]
 unfold buildOk at hok
 split at hok
 ·rename_i fs hd
  have hu:=under_of_desc hd (by simp)
  have hm:=run_mapM_array (P:=E.P) (w:=w) (fun f:Field=>do pure (f.offset,← sizeOf f.type)) (fun f=>(f.offset,tsize E.P f.type)) fs (fun f hf=>by
   have hs:=sizedAll_spec hok f hf
   obtain ⟨i,hi,hsz⟩:=info_of_tsize (P:=E.P) (t:=f.type) rfl hs
   simp [sizeOf,typeInfo,hi,hsz])
  have e:(placeOf E.P t)=fun x:Nat=>(fs.map (fun f:Field=>(f.offset,tsize E.P f.type)))[x]?:=by
   funext x
   simp only [placeOf,hd,nth_eq,Array.getElem?_map]
   rw [Array.getElem?_toList]
   cases fs[x]?<;>rfl
  rw [e] at h1
  simp only [run_underlying hu,Result.andThen_ok,Sem.run_bind,hm,Array.toList_map,h1,Sem.run_pure]
 ·rename_i n el hd
  have hu:=under_of_desc hd (by simp)
  split at hok
  ·cases hok
  ·rename_i hs
   obtain ⟨i',hi',hsz'⟩:=info_of_tsize (P:=E.P) (t:=el) rfl hs
   have e:(placeOf E.P t)=fun x:Nat=>some (x*i'.size,i'.size):=by
    funext x
    simp [placeOf,hd,hsz']
   rw [e] at h1
   have hso:(sizeOf el).run E.P w = .ok i'.size w:=by simp [sizeOf,typeInfo,hi']
   simp only [run_underlying hu,Result.andThen_ok,Sem.run_bind,hso,Array.toList_map,h1,Sem.run_pure]
 ·cases hok
theorem field_place {s:TypeId} {f off:Nat} {t:TypeId} {b o':Nat} (hf:fieldOf E.P s f=some (off,t)) :
  ∃ fs,E.P.underlying s=some (.struct fs)∧∃ fd,fs[f]?=some fd∧fd.type=t∧fd.offset=off∧tsize E.P t≠0∧∀ w,(fieldPlace ⟨b,o',none⟩ fd).run E.P w = .ok ⟨b,o'+off,none⟩ w:=by
 unfold fieldOf at hf
 split at hf
 ·rename_i fs hd
  have hu:=under_of_desc hd (by simp)
  split at hf
  ·rename_i x hx
   split at hf
   ·cases hf
   ·rename_i hs
    cases hf
    rw [nth_eq,Array.getElem?_toList] at hx
    obtain ⟨i,hi,hsz⟩:=info_of_tsize (P:=E.P) (t:=x.type) rfl hs
    refine ⟨fs,hu,x,hx,rfl,rfl,hs,fun w=>?_⟩
    simp [fieldPlace,sizeOf,typeInfo,hi,hsz,hs,Addr.add_lit]
  ·cases hf
 ·cases hf
theorem op_fieldAddr {s:TypeId} {x:Operand} {f:Nat} (ho:o.op = .fieldAddr s x f) (h:Rel E O ts sh env a w) (hk:fieldS E s (evr E ts sh x) sh f fun v=>K v sh):OpY E O o sh env a w K:=by
 have hx:=evr_rep h x
 have key:∀ (b o' off:Nat) (t:TypeId) (sv:SV A),a.eval x = .pointer (some ⟨b,o',none⟩)→fieldOf E.P s f=some (off,t)→Rep O env w E.C sv (.pointer (some ⟨b,o'+off,none⟩))→K sv sh→OpY E O o sh env a w K:=by
  intro b o' off t sv hv hf hr hK
  obtain ⟨fs,hu,fd,h1,h2,h3,h4,h5⟩:=field_place (b:=b) (o':=o') hf
  refine opY_same (v := .pointer (some ⟨b,o'+off,none⟩)) (fun w'=>?_) hr hK
  simp only [execOp,ho,hv,Instr.fieldAt,Sem.run_bind,run_underlying hu,Result.andThen_ok,h1,Instr.sureAddr,Sem.run_pure,h5]
 generalize evr E ts sh x=sx at hx hk
 generalize a.eval x=vx at hx key
 unfold fieldS at hk
 split at hk
 ·exact hk.elim
 ·rename_i off t hf
  split at hk
  ·rename_i i o'
   split at hk
   ·rename_i hal
    obtain ⟨b,hb,hv⟩:=live_ptr h.heap hal hx.inv_ptr
    exact key _ _ _ _ _ hv hf (.ptr (by simp [refAt,hb])) hk
   ·exact hk.elim
  ·exact hk.elim
  ·rename_i cs o' hno
   obtain ⟨b,o2,vs,hv,hO,he,hlt,hc,hr⟩:=hx.inv_rptr
   refine key _ _ _ _ _ hv hf ?_ hk
   rw [Nat.add_assoc]
   exact .rptr b o2 vs hO he hlt hc hr
  ·rename_i i j size o'
   split at hk
   ·rename_i hal
    obtain ⟨v,hb,⟨b,n,c,h1,h2⟩,_⟩:=live_vec h.heap hal hx.inv_vptr
    exact key _ _ _ _ _ h2 hf (.vptr (by simp [slAt,hb,h1,Nat.add_assoc])) hk
   ·exact hk.elim
  ·exact hk.elim
/-- A part of an aggregate. -/
theorem run_part {t:TypeId} {cs:SL A} {vs:List Value} {off:Nat} {s:SV A} (hok:okT E.P t=true) (hr:RepL O env w E.C cs vs) (e:rdCells E.P t cs off=some s) :
  ∃ v,(∀ w',(part t vs.toArray off).run E.P w' = .ok v w')∧Rep O env w E.C s v:=by
 obtain ⟨hd,hne,_⟩:=okT_spec hok
 obtain ⟨i,hi,hsz⟩:=info_of_tsize (P:=E.P) (t:=t) rfl hne
 unfold rdCells at e
 split at e
 ·rename_i hg
  split at e
  ·rename_i d hsub
   cases e
   obtain ⟨h1,h2⟩:=hr.sub hsub
   refine ⟨.agg (vs.toArray.extract off (off+tsize E.P t)),?_,?_⟩
   ·intro w'
    simp only [part,Sem.run_bind,under_agg hg,Result.andThen_ok,if_true,sizeOf,typeInfo]
    simp [hi,hsz]
   ·have:=Rep.agg (O:=O) (env:=env) (w:=w) (C:=E.C) _ h1
    have e2:((vs.drop off).take (tsize E.P t)).toArray=vs.toArray.extract off (off+tsize E.P t):=by
     simp [List.extract_eq_take_drop]
    rw [e2] at this
    exact this
  ·cases e
 ·rename_i hg
  obtain ⟨v,hv,hr'⟩:=hr.one e
  refine ⟨v,fun w'=>?_,hr'⟩
  simp only [part,Sem.run_bind,under_not (by simpa using hg) hd,Result.andThen_ok]
  simp [hv]
theorem op_field {s:TypeId} {x:Operand} {f:Nat} (ho:o.op = .field s x f) (h:Rel E O ts sh env a w) (hk:fieldVS E s (evr E ts sh x) f fun v=>K v sh):OpY E O o sh env a w K:=by
 have hx:=evr_rep h x
 unfold fieldVS at hk
 split at hk
 ·exact hk.elim
 ·rename_i off t hf
  split at hk
  ·rename_i cs e
   rw [e] at hx
   obtain ⟨us,hv,hr⟩:=hx.inv_agg
   split at hk
   ·rename_i hok
    split at hk
    ·rename_i sv hsv
     obtain ⟨v,h1,h2⟩:=run_part hok hr hsv
     obtain ⟨fs,hu,fd,h3,h4,h5,_⟩:=field_place (b:=0) (o':=0) hf
     subst h4; subst h5
     refine opY_same (v:=v) (fun w'=>?_) h2 hk
     simp only [execOp,ho,hv,Instr.field,Sem.run_bind,run_underlying hu,Result.andThen_ok,h3,asAgg,Sem.run_pure,h1]
    ·exact hk.elim
   ·exact hk.elim
  ·exact hk.elim
theorem op_extract {x:Operand} {i:Nat} (ho:o.op = .extract x i) (h:Rel E O ts sh env a w) (hk:stepOp E (.extract x i) ts sh K):OpY E O o sh env a w K:=by
 simp only [stepOp] at hk
 have hx:=evr_rep h x
 split at hk
 ·rename_i vs e
  rw [e] at hx
  obtain ⟨us,hv,hr⟩:=hx.inv_tup
  split at hk
  ·rename_i s hs
   obtain ⟨v,h1,h2⟩:=hr.one hs
   exact opY_same (v:=v) (fun w'=>by simp [execOp,ho,hv,Instr.extract,h1]) h2 hk
  ·exact hk.elim
 ·exact hk.elim
theorem op_nilCheck {x:Operand} (ho:o.op = .nilCheck x) (h:Rel E O ts sh env a w) (hk:stepOp E (.nilCheck x) ts sh K):OpY E O o sh env a w K:=by
 simp only [stepOp] at hk
 have hx:=evr_rep h x
 have key:∀ (ad:Addr) (sv:SV A),a.eval x = .pointer (some ad)→Rep O env w E.C sv (a.eval x)→K sv sh→OpY E O o sh env a w K:=by
  intro ad sv hv hr hK
  refine opY_same (v := .pointer (some ad)) (fun w'=>by simp [execOp,ho,hv]) (by rw [← hv]; exact hr) hK
 split at hk
 ·rename_i i off e
  split at hk
  ·rename_i hal
   rw [e] at hx
   obtain ⟨b,hb,hv⟩:=live_ptr h.heap hal hx.inv_ptr
   exact key _ _ hv hx hk
  ·exact hk.elim
 ·rename_i i off n j e
  split at hk
  ·rename_i hal
   rw [e] at hx
   obtain ⟨b,hb,hv,_⟩:=live_blk h.heap hal hx.inv_aptr
   exact key _ _ hv hx hk
  ·exact hk.elim
 ·rename_i cs off e
  rw [e] at hx
  obtain ⟨b,o2,vs,hv,_⟩:=hx.inv_rptr
  exact key _ _ hv hx hk
 ·rename_i i j s off e
  split at hk
  ·rename_i hal
   rw [e] at hx
   obtain ⟨v,hb,⟨b,n,c,h1,h2⟩,_⟩:=live_vec h.heap hal hx.inv_vptr
   exact key _ _ h2 hx hk
  ·exact hk.elim
 ·rename_i f p q e
  rw [e] at hx
  obtain ⟨us,vs,hv,_,_⟩:=hx.inv_fn
  exact opY_same (v := .func (.func f) us.toArray vs.toArray) (fun w'=>by simp [execOp,ho,hv]) (by rw [← hv]; exact hx) hk
 ·rename_i t s e
  rw [e] at hx
  obtain ⟨u,hv,_⟩:=hx.inv_iface
  exact opY_same (v := .iface t u) (fun w'=>by simp [execOp,ho,hv]) (by rw [← hv]; exact hx) hk
 ·exact hk.elim
end
end Go.Eng

/-! The engine's operations are right: places in rows, slices, heaps that go on. Conditions: none. -/
namespace Go.Eng
open Go
variable {A:Nat→Type}
section
variable {O:Nat→Prop} {env:List Wit} {w w':World} {C:Enc A} {sh:List (SO A)}
theorem get_set_dead {i j:Nat} {x:Wit} (h:(env.set i .dead)[j]?=some x):(j=i∧x = .dead)∨(j≠i∧env[j]?=some x):=by
 by_cases e:i=j
 ·subst e
  have hl:i<env.length:=by have:=(List.getElem?_eq_some_iff.1 h).1; simpa using this
  rw [List.getElem?_set_self hl] at h
  cases h; exact .inl ⟨rfl,rfl⟩
 ·rw [List.getElem?_set_ne e] at h
  exact .inr ⟨fun e'=>e e'.symm,h⟩
theorem owned_set_dead {i b:Nat} (h:owned (env.set i .dead) b):owned env b:=by
 obtain ⟨j,x,hj,ho⟩:=h
 rcases get_set_dead hj with ⟨_,rfl⟩ | ⟨_,h1⟩
 ·exact ho.elim
 ·exact ⟨j,x,h1,ho⟩
theorem Step.kill (i:Nat):Step env w (env.set i .dead) w:=by
 refine ⟨rfl,rfl,rfl,Nat.le_refl _,by simp,fun j x hj=>?_,fun b hb => .inl (owned_set_dead hb),fun _ _ _=>rfl⟩
 by_cases e:i=j
 ·subst e
  have hl:i<env.length:=(List.getElem?_eq_some_iff.1 hj).1
  rw [List.getElem?_set_self hl]; exact ⟨_,rfl,.inr (.inl rfl)⟩
 ·rw [List.getElem?_set_ne e]; exact ⟨_,hj,.refl _⟩
theorem HR.kill (h:HR O env w C sh) (i:Nat):HR O (env.set i .dead) w C (sh.set i .dead) where
 len:=by simp [h.len]
 rep:=fun j so x h1 h2=>by
  rcases get_set_dead h2 with ⟨rfl,rfl⟩ | ⟨hne,h3⟩
  ·have hl:j<sh.length:=by have:=(List.getElem?_eq_some_iff.1 h1).1; simpa using this
   rw [List.getElem?_set_self hl] at h1
   cases h1; rfl
  ·rw [List.getElem?_set_ne (Ne.symm hne)] at h1
   exact (h.rep j so x h1 h3).step (Step.kill i) (fun _ _=>rfl)
 disj:=fun p q x y b h1 h2 hx hy=>by
  rcases get_set_dead h1 with ⟨_,rfl⟩ | ⟨_,h1⟩
  ·exact hx.elim
  ·rcases get_set_dead h2 with ⟨_,rfl⟩ | ⟨_,h2⟩
   ·exact hy.elim
   ·exact h.disj p q x y b h1 h2 hx hy
 out:=fun b hb=>h.out b (owned_set_dead hb)
 lt:=fun b hb=>h.lt b (owned_set_dead hb)
 olt:=h.olt
/-- Behind an entry that is done with comes another one, whose memory is that one's, or new. -/
theorem HR.next (h:HR O env w C sh) (i:Nat) (row:Option Nat) (hg:w.grownBy w' row) (hrow:∀ k,row=some k→∃ x,env[i]?=some x∧x.owns k)
  (x':Wit) (hown:∀ b,x'.owns b→(∃ x,env[i]?=some x∧x.owns b)∨w.heap.size≤b) (hlt:∀ b,x'.owns b→b<w'.heap.size) (so':SO A)
  (hr:∀ (_hs:Step env w (env.set i .dead++[x']) w'),ORep O (env.set i .dead++[x']) w' C so' x') :
  HR O (env.set i .dead++[x']) w' C (sh.set i .dead++[so'])∧Step env w (env.set i .dead++[x']) w':=by
 have hsub:∀ b,owned (env.set i .dead++[x']) b→owned env b∨w.heap.size≤b:=fun b hb=>by
  rcases owned_snoc.1 hb with h1 | h1
  ·exact .inl (owned_set_dead h1)
  ·rcases hown b h1 with ⟨x,h2,h3⟩ | h2
   ·exact .inl ⟨i,x,h2,h3⟩
   ·exact .inr h2
 have hs:Step env w (env.set i .dead++[x']) w':=by
  refine ⟨hg.os,hg.tape,hg.output,hg.size,by simp,fun j x hj=>?_,hsub,fun b hb hn=>hg.block b hb (fun e=>?_)⟩
  ·have hl:j<env.length:=(List.getElem?_eq_some_iff.1 hj).1
   rw [List.getElem?_append_left (by simpa using hl)]
   exact (Step.kill (w:=w) i).keep j x hj
  ·obtain ⟨x,h1,h2⟩:=hrow b e.symm
   exact hn ⟨i,x,h1,h2⟩
 refine ⟨⟨by simp [h.len],?_,?_,?_,?_,?_⟩,hs⟩
 ·intro j so x h1 h2
  rcases Nat.lt_or_ge j env.length with hj | hj
  ·rw [List.getElem?_append_left (by simp [h.len]; exact hj)] at h1
   rw [List.getElem?_append_left (by simpa using hj)] at h2
   rcases get_set_dead h2 with ⟨rfl,rfl⟩ | ⟨hne,h3⟩
   ·rw [List.getElem?_set_self (by rw [h.len]; exact hj)] at h1
    cases h1; rfl
   ·rw [List.getElem?_set_ne (Ne.symm hne)] at h1
    refine (h.rep j so x h1 h3).step hs (fun b hb=>hg.block b (h.lt b ⟨j,x,h3,hb⟩) (fun e=>?_))
    obtain ⟨y,h4,h5⟩:=hrow b e.symm
    exact hne (h.disj j i x y b h3 h4 hb h5)
  ·rw [List.getElem?_append_right (by simp [h.len]; exact hj)] at h1
   rw [List.getElem?_append_right (by simpa using hj)] at h2
   simp only [List.length_set,h.len] at h1 h2
   cases hj':j-env.length with
   | zero=>rw [hj'] at h1 h2; simp at h1 h2; subst h1; subst h2; exact hr hs
   | succ n=>rw [hj'] at h1; simp at h1
 ·intro p q x y b hx hy hxb hyb
  have key:∀ (p:Nat) x,(env.set i Wit.dead++[x'])[p]?=some x→x.owns b→(p<env.length∧p≠i∧env[p]?=some x)∨(p=env.length∧x'.owns b):=by
   intro p x hx hb
   rcases Nat.lt_or_ge p env.length with hp | hp
   ·rw [List.getElem?_append_left (by simpa using hp)] at hx
    rcases get_set_dead hx with ⟨rfl,rfl⟩ | ⟨hne,h3⟩
    ·exact hb.elim
    ·exact .inl ⟨hp,hne,h3⟩
   ·rw [List.getElem?_append_right (by simpa using hp)] at hx
    simp only [List.length_set] at hx
    cases hj:p-env.length with
    | zero=>rw [hj] at hx; simp at hx; subst hx; exact .inr ⟨by omega,hb⟩
    | succ n=>rw [hj] at hx; simp at hx
  have key2:∀ (p:Nat) x,p≠i→env[p]?=some x→x.owns b→x'.owns b→False:=by
   intro p x hne h1 h2 h3
   rcases hown b h3 with ⟨y,h4,h5⟩ | h4
   ·exact hne (h.disj p i x y b h1 h4 h2 h5)
   ·have:=h.lt b ⟨p,x,h1,h2⟩; omega
  rcases key p x hx hxb with ⟨_,h1,h2⟩ | ⟨h1,h2⟩<;>rcases key q y hy hyb with ⟨_,h3,h4⟩ | ⟨h3,h4⟩
  ·exact h.disj p q x y b h2 h4 hxb hyb
  ·exact (key2 p x h1 h2 hxb h4).elim
  ·exact (key2 q y h3 h4 hyb h2).elim
  ·omega
 ·intro b hb hO
  rcases hsub b hb with h1 | h1
  ·exact h.out b h1 hO
  ·have:=h.olt b hO; omega
 ·intro b hb
  rcases owned_snoc.1 hb with h1 | h1
  ·exact Nat.lt_of_lt_of_le (h.lt b (owned_set_dead h1)) hg.size
  ·exact hlt b h1
 ·intro b hb; exact Nat.lt_of_lt_of_le (h.olt b hb) hg.size
/-- A new entry, with memory of its own. -/
theorem HR.push (h:HR O env w C sh) (hg:w.grownBy w' none) (x':Wit) (hown:∀ b,x'.owns b→w.heap.size≤b) (hlt:∀ b,x'.owns b→b<w'.heap.size) (so':SO A)
  (hr:∀ (_hs:Step env w (env++[x']) w'),ORep O (env++[x']) w' C so' x') :
  HR O (env++[x']) w' C (sh++[so'])∧Step env w (env++[x']) w':=by
 have e1:env.set env.length .dead=env:=List.set_eq_of_length_le (Nat.le_refl _)
 have e2:sh.set env.length .dead=sh:=List.set_eq_of_length_le (by rw [h.len]; exact Nat.le_refl _)
 have:=h.next env.length none hg (fun k hk=>by cases hk) x' (fun b hb => .inr (hown b hb)) hlt so'
 rw [e1,e2] at this
 exact this hr
end
section
variable {E:Eng A} {O:Nat→Prop} {ts:List (SV A)} {sh:List (SO A)} {env:List Wit} {a:Act} {w:World} {o:Oper} {K:Pred A} {C:Enc A}
theorem run_index_array {t e:TypeId} {n b o':Nat} {k:IntKind} {i:Int} (hd:desc E.P t = .array n e) (hne:tsize E.P e≠0) (h0:0≤i) (h1:i<(n:Nat)) :
  (Instr.indexAt t (.pointer (some ⟨b,o',none⟩)) (.int k i)).run E.P w = .ok (.pointer (some ⟨b,o'+i.toNat*tsize E.P e,none⟩)) w:=by
 have hu:=under_of_desc hd (by simp)
 obtain ⟨x,hi,hsz⟩:=info_of_tsize (P:=E.P) (t:=e) rfl hne
 simp only [Instr.indexAt,Go.asIntOf,Sem.run_bind,Sem.run_pure,Result.andThen_ok,run_underlying hu,Instr.sureAddr]
 simp [h0,h1,sizeOf,typeInfo,hi,hsz,Addr.add_lit]
theorem run_index_slice {t e:TypeId} {n c b o':Nat} {k:IntKind} {i:Int} (hd:desc E.P t = .slice e) (hne:tsize E.P e≠0) (h0:0≤i) (h1:i<(n:Nat)) :
  (Instr.indexAt t (.slice (some ⟨b,o',none⟩) n c) (.int k i)).run E.P w = .ok (.pointer (some ⟨b,o'+i.toNat*tsize E.P e,none⟩)) w:=by
 have hu:=under_of_desc hd (by simp)
 obtain ⟨x,hi,hsz⟩:=info_of_tsize (P:=E.P) (t:=e) rfl hne
 simp only [Instr.indexAt,Go.asIntOf,Sem.run_bind,Sem.run_pure,Result.andThen_ok,run_underlying hu]
 simp [h0,h1,sizeOf,typeInfo,hi,hsz,Addr.add_lit]
theorem own_nonempty {e:TypeId} {size n:Nat} {v:Value} {vs:List Value} (h:w.ownsRow 0 e size v n vs) (hn:0<n):∃ b c,v = .slice (some ⟨b,0,none⟩) n c:=by
 rcases h.2 with ⟨_,h1⟩ | ⟨g,cap,cur,h1,_⟩
 ·omega
 ·exact ⟨g,cap,h1⟩
theorem op_indexAddr {t:TypeId} {x y:Operand} (ho:o.op = .indexAddr t x y) (h:Rel E O ts sh env a w) (hk:indexS E t (evr E ts sh x) (evr E ts sh y) sh fun v=>K v sh):OpY E O o sh env a w K:=by
 have hx:=evr_rep h x
 have hy:=evr_rep h y
 have key:∀ (v:Value) (s:SV A),(∀ w',(Instr.indexAt t (a.eval x) (a.eval y)).run E.P w' = .ok v w')→Rep O env w E.C s v→K s sh→OpY E O o sh env a w K:=by
  intro v s hrun hr hK
  exact opY_same (v:=v) (fun w'=>by simp only [execOp,ho]; simp [hrun]) hr hK
 generalize evr E ts sh x=sx at hx hk
 generalize evr E ts sh y=sy at hy hk
 generalize a.eval x=vx at hx key
 generalize a.eval y=vy at hy key
 unfold indexS at hk
 split at hk
 ·exact hk.elim
 ·rename_i k i l hi
  have hvy:=rep_asInt hi hy
  subst hvy
  split at hk
  ·rename_i n e hd
   split at hk
   ·rename_i b off
    split at hk
    ·rename_i k' m xs hrun
     split at hk
     ·rename_i hsz
      split at hk
      ·rename_i hmn
       obtain ⟨h0,h1,hK⟩:=hk
       split at hrun
       ·rename_i e' cs hi'
        obtain ⟨g,vs,hb,hc,hr⟩:=h.heap.cells hi'
        have hv:=refAt_blk hx.inv_ptr hb
        subst hv
        refine key _ _ (fun w'=>run_index_array hd (by omega) h0 h1) (.aptr (by simp [blkAt,hb,hsz]; omega)) hK
       ·cases hrun
      ·exact hk.elim
     ·split at hk
      ·split at hk
       ·rename_i hb2
        split at hk
        ·exact hk.elim
        ·rename_i hne
         split at hk
         ·rename_i hal
          obtain ⟨g,hb,hv⟩:=live_ptr h.heap hal hx.inv_ptr
          subst hv
          exact key _ _ (fun w'=>run_index_array hd hne hb2.1 hb2.2) (.ptr (by simp [refAt,hb])) hk
         ·exact hk.elim
       ·exact hk.elim
      ·exact hk.elim
    ·split at hk
     ·split at hk
      ·rename_i hb2
       split at hk
       ·exact hk.elim
       ·rename_i hne
        split at hk
        ·rename_i hal
         obtain ⟨g,hb,hv⟩:=live_ptr h.heap hal hx.inv_ptr
         subst hv
         exact key _ _ (fun w'=>run_index_array hd hne hb2.1 hb2.2) (.ptr (by simp [refAt,hb])) hk
        ·exact hk.elim
      ·exact hk.elim
     ·exact hk.elim
   ·rename_i k' m xs off
    split at hk
    ·exact hk.elim
    ·rename_i hne
     obtain ⟨h0,h1,hK⟩:=hk
     obtain ⟨b,o2,vs,hv,hO,he,hlt,hc,hr⟩:=hx.inv_rptr
     subst hv
     refine key _ _ (fun w'=>run_index_array hd hne h0 h1) ?_ hK
     rw [Nat.add_assoc]
     exact .rptr b o2 vs hO he hlt hc hr
   ·rename_i cs off hno
    split at hk
    ·split at hk
     ·rename_i hb2
      split at hk
      ·exact hk.elim
      ·rename_i hne
       obtain ⟨b,o2,vs,hv,hO,he,hlt,hc,hr⟩:=hx.inv_rptr
       subst hv
       refine key _ _ (fun w'=>run_index_array hd hne hb2.1 hb2.2) ?_ hk
       rw [Nat.add_assoc]
       exact .rptr b o2 vs hO he hlt hc hr
     ·exact hk.elim
    ·exact hk.elim
   ·exact hk.elim
  ·rename_i e hd
   split at hk
   ·rename_i k' xs
    split at hk
    ·rename_i hsz
     obtain ⟨h0,h1,hK⟩:=hk
     obtain ⟨ad,c,hv,h2,h3,h4⟩:=hx.inv_rints
     rcases h4 with h4 | ⟨b,o2,had,hO,he,hc⟩
     ·have:xs=[]:=by simpa using h4
      subst this; simp at h1; omega
     ·subst hv; subst had
      refine key _ _ (fun w'=>run_index_slice hd (by omega) h0 h1) ?_ hK
      have hlt:b<w.heap.size:=by
       have:0<xs.length:=by omega
       exact cell_lt (hc 0 (.int k' xs[0]) (by simp [this]))
      rw [hsz,Nat.mul_one]
      refine .rptr b o2 (xs.map (Value.int k')) hO he hlt hc ?_
      have:=RepL.run (O:=O) (env:=env) (w:=w) (C:=E.C) (k:=k') (n:=xs.length) (xs:=xs) rfl RepL.nil
      simpa using this
    ·exact hk.elim
   ·rename_i u xs
    split at hk
    ·rename_i hsz
     split at hk
     ·exact hk.elim
     ·rename_i hne
      obtain ⟨h0,h1,hK⟩:=hk
      have hj:i.toNat<xs.length:=by omega
      have hK:=hK _ (List.getElem?_eq_getElem hj)
      obtain ⟨ad,c,vs,hv,h2,h3,hl,h4,h5⟩:=hx.inv_rseq
      have hr:=h5 i.toNat _ (List.getElem?_eq_getElem hj)
      rcases h4 with h4 | ⟨b,o2,had,hO,he,hc⟩
      ·exfalso
       rw [h4] at hl
       simp at hl
       have:0<xs.length*E.C.size u:=Nat.mul_pos (by omega) (by omega)
       rw [← hl] at this; simp at this
      ·subst hv; subst had
       refine key _ _ (fun w'=>run_index_slice hd hne h0 h1) ?_ hK
       rw [hsz]
       have hsub:∀ (q:Nat) z,((vs.drop (i.toNat*E.C.size u)).take (E.C.size u))[q]?=some z→w.cell? ⟨b,o2+i.toNat*E.C.size u+q,none⟩=some z:=by
        intro q z hq
        rw [List.getElem?_take] at hq
        split at hq
        ·rw [List.getElem?_drop] at hq
         rw [Nat.add_assoc]; exact hc _ z hq
        ·cases hq
       have hlt:b<w.heap.size:=by
        have h6:0<vs.length:=by rw [hl]; exact Nat.mul_pos (by omega) (by omega)
        exact cell_lt (hc 0 vs[0] (List.getElem?_eq_getElem h6))
       have:=Rep.rptr (O:=O) (env:=env) (w:=w) (C:=E.C) (off:=0) b (o2+i.toNat*E.C.size u) _ hO he hlt hsub hr
       simpa using this
    ·exact hk.elim
   ·rename_i j
    split at hk
    ·rename_i e' k' xs hi'
     split at hk
     ·rename_i hsz
      obtain ⟨h0,h1,hK⟩:=hk
      obtain ⟨v,hb,hown⟩:=h.heap.ivec hi'
      obtain ⟨b,c,hv2⟩:=own_nonempty hown (by omega)
      have hv:=slAt_some hx.inv_vec hb
      subst hv; subst hv2
      exact key _ _ (fun w'=>run_index_slice hd (by omega) h0 h1) (.vptr (by simp [slAt,hb,hsz])) hK
     ·exact hk.elim
    ·rename_i u xs hi'
     split at hk
     ·rename_i hsz
      split at hk
      ·exact hk.elim
      ·rename_i hne
       obtain ⟨h0,h1,hK⟩:=hk
       obtain ⟨v,vs,hb,hown,_⟩:=h.heap.svec hi'
       obtain ⟨b,c,hv2⟩:=own_nonempty hown (by omega)
       have hv:=slAt_some hx.inv_vec hb
       subst hv; subst hv2
       exact key _ _ (fun w'=>run_index_slice hd hne h0 h1) (.vptr (by simp [slAt,hb,hsz])) hK
     ·exact hk.elim
    ·exact hk.elim
   ·rename_i b off n
    split at hk
    ·rename_i hsz
     split at hk
     ·rename_i hal
      obtain ⟨h0,h1,hK⟩:=hk
      obtain ⟨g,hb,c,hv,h2,h3⟩:=live_blk h.heap hal hx.inv_asl
      subst hv
      exact key _ _ (fun w'=>run_index_slice hd (by omega) h0 h1) (.aptr (by simp [blkAt,hb,hsz]; omega)) hK
     ·exact hk.elim
    ·exact hk.elim
   ·exact hk.elim
  ·exact hk.elim
end
end Go.Eng

/-! The engine's operations are right: lengths, slices, equality. Conditions: none. -/
namespace Go.Eng
open Go
variable {A:Nat→Type}
theorem get_set_ro {env:List Wit} {u:Value} {i j:Nat} {x:Wit} (h:(env.set i (.ro u))[j]?=some x):(j=i∧x = .ro u)∨(j≠i∧env[j]?=some x):=by
 by_cases e:i=j
 ·subst e
  have hl:i<env.length:=by have:=(List.getElem?_eq_some_iff.1 h).1; simpa using this
  rw [List.getElem?_set_self hl] at h
  cases h; exact .inl ⟨rfl,rfl⟩
 ·rw [List.getElem?_set_ne e] at h
  exact .inr ⟨fun e'=>e e'.symm,h⟩
theorem owned_set_ro {env:List Wit} {u:Value} {i b:Nat} (h:owned (env.set i (.ro u)) b):owned env b:=by
 obtain ⟨j,x,hj,ho⟩:=h
 rcases get_set_ro hj with ⟨_,rfl⟩ | ⟨_,h1⟩
 ·exact ho.elim
 ·exact ⟨j,x,h1,ho⟩
theorem Step.freeze {env:List Wit} {w:World} {i:Nat} {u:Value} (hi:env[i]?=some (.sl u)):Step env w (env.set i (.ro u)) w:=by
 refine ⟨rfl,rfl,rfl,Nat.le_refl _,by simp,fun j x hj=>?_,fun b hb => .inl (owned_set_ro hb),fun _ _ _=>rfl⟩
 by_cases e:i=j
 ·subst e
  rw [hi] at hj; cases hj
  have hl:i<env.length:=(List.getElem?_eq_some_iff.1 hi).1
  rw [List.getElem?_set_self hl]; exact ⟨_,rfl,.inr (.inr ⟨u,rfl,rfl⟩)⟩
 ·rw [List.getElem?_set_ne e]; exact ⟨_,hj,.refl _⟩
theorem HR.freeze {O:Nat→Prop} {env:List Wit} {w:World} {C:Enc A} {sh:List (SO A)} (h:HR O env w C sh) {i:Nat} {u:Value} {s:SV A} (hi:env[i]?=some (.sl u))
  (hr:Rep O (env.set i (.ro u)) w C s u):HR O (env.set i (.ro u)) w C (sh.set i (.fr s)) where
 len:=by simp [h.len]
 rep:=fun j so x h1 h2=>by
  rcases get_set_ro h2 with ⟨rfl,rfl⟩ | ⟨hne,h3⟩
  ·have hl:j<sh.length:=by have:=(List.getElem?_eq_some_iff.1 h1).1; simpa using this
   rw [List.getElem?_set_self hl] at h1
   cases h1; exact hr
  ·rw [List.getElem?_set_ne (Ne.symm hne)] at h1
   exact (h.rep j so x h1 h3).step (Step.freeze hi) (fun _ _=>rfl)
 disj:=fun p q x y b h1 h2 hx hy=>by
  rcases get_set_ro h1 with ⟨_,rfl⟩ | ⟨_,h1⟩
  ·exact hx.elim
  ·rcases get_set_ro h2 with ⟨_,rfl⟩ | ⟨_,h2⟩
   ·exact hy.elim
   ·exact h.disj p q x y b h1 h2 hx hy
 out:=fun b hb=>h.out b (owned_set_ro hb)
 lt:=fun b hb=>h.lt b (owned_set_ro hb)
 olt:=h.olt
theorem HR.freezeI {O:Nat→Prop} {env:List Wit} {w:World} {C:Enc A} {sh:List (SO A)} (hh:HR O env w C sh) {i:Nat} {e:TypeId} {k:IntKind} {xs:List Int} (hi:nth sh i=some (.ivec e k xs)) :
  ∃ u,env[i]?=some (.sl u)∧HR O (env.set i (.ro u)) w C (setNth sh i (.fr (.rints k xs)))∧Step env w (env.set i (.ro u)) w∧Rep O (env.set i (.ro u)) w C (.rints k xs) u:=by
 obtain ⟨u,hb,hown⟩:=hh.ivec hi
 have hr:Rep O (env.set i (.ro u)) w C (.rints k xs) u:=by
  rcases hown.2 with ⟨h6,h7⟩ | ⟨g,cap,cur,h6,h7,h8,h9,h10,h11,h12⟩
  ·have:xs=[]:=List.eq_nil_of_length_eq_zero h7
   subst this
   rw [h6]
   exact .rints (xs:=[]) none 0 (Nat.le_refl _) (by simp [maxLen]) (.inl rfl)
  ·subst h6
   refine .rints _ _ h9 h10 (.inr ⟨g,0,rfl,hh.out g ⟨i,_,hb,by simp [Wit.owns,Value.ownBlock]⟩,fun h13=>?_,fun j u hu=>by rw [Nat.zero_add]; exact own_cell hown j u hu⟩)
   obtain ⟨j,x,hj,hxo⟩:=h13
   rcases get_set_ro hj with ⟨_,rfl⟩ | ⟨hne',h14⟩
   ·exact hxo
   ·exact hne' (hh.disj j i x _ g h14 hb hxo (by simp [Wit.owns,Value.ownBlock]))
 exact ⟨u,hb,by rw [setNth_eq]; exact hh.freeze hb hr,Step.freeze hb,hr⟩
theorem HR.freezeS {O:Nat→Prop} {env:List Wit} {w:World} {C:Enc A} {sh:List (SO A)} (hh:HR O env w C sh) {i:Nat} {e:TypeId} {xs:List (A e)} (hi:nth sh i=some (.svec e xs)) :
  ∃ u,env[i]?=some (.sl u)∧HR O (env.set i (.ro u)) w C (setNth sh i (.fr (.rseq e xs)))∧Step env w (env.set i (.ro u)) w∧Rep O (env.set i (.ro u)) w C (.rseq e xs) u:=by
 obtain ⟨u,vs,hb,hown,hrows⟩:=hh.svec hi
 have hrows':∀ (j:Nat) (x:A e),xs[j]?=some x→RepL O (env.set i (.ro u)) w C (C.enc e x) ((vs.drop (j*C.size e)).take (C.size e)):=fun j x hj=>(hrows j x hj).step (Step.freeze hb)
 have hr:Rep O (env.set i (.ro u)) w C (.rseq e xs) u:=by
  rcases hown.2 with ⟨h6,h7⟩ | ⟨g,cap,cur,h6,h7,h8,h9,h10,h11,h12⟩
  ·have hl:=hown.1
   rw [h7] at hl
   have:xs=[]:=List.eq_nil_of_length_eq_zero h7
   subst this
   have hvs:vs=[]:=List.eq_nil_of_length_eq_zero (by simpa using hl)
   subst hvs
   rw [h6] at hrows' ⊢
   exact .rseq (xs:=[]) none 0 [] (Nat.le_refl _) (by simp [maxLen]) (by simp) (.inl rfl) hrows'
  ·subst h6
   refine .rseq _ _ vs h9 h10 hown.1 (.inr ⟨g,0,rfl,hh.out g ⟨i,_,hb,by simp [Wit.owns,Value.ownBlock]⟩,fun h13=>?_,fun j u hu=>by rw [Nat.zero_add]; exact own_cell hown j u hu⟩) hrows'
   obtain ⟨j,x,hj,hxo⟩:=h13
   rcases get_set_ro hj with ⟨_,rfl⟩ | ⟨hne',h14⟩
   ·exact hxo
   ·exact hne' (hh.disj j i x _ g h14 hb hxo (by simp [Wit.owns,Value.ownBlock]))
 exact ⟨u,hb,by rw [setNth_eq]; exact hh.freeze hb hr,Step.freeze hb,hr⟩
section
variable {E:Eng A} {O:Nat→Prop} {ts:List (SV A)} {sh:List (SO A)} {env:List Wit} {a:Act} {w:World} {o:Oper} {K:Pred A} {C:Enc A}
theorem own_len {e:TypeId} {size n:Nat} {v:Value} {vs:List Value} (h:w.ownsRow 0 e size v n vs):∃ ad c,v = .slice ad n c∧n≤c∧c≤maxLen:=by
 rcases h.2 with ⟨h1,h2⟩ | ⟨g,cap,cur,h1,_,_,h2,h3,_⟩
 ·exact ⟨none,0,by rw [h1,h2],by omega,by simp [maxLen]⟩
 ·exact ⟨_,cap,h1,h2,h3⟩
/-- A slice's length. -/
theorem lenS_slice {s:SV A} {v:Value} {n:Int} {l:Bool} (hh:HR O env w C sh) (hl:lenS sh s=some (n,l)) (h:Rep O env w C s v) :
  (∃ ad m c,v = .slice ad m c∧n=(m:Nat)∧m≤c∧c≤maxLen)∨∃ str,s = .val (.string str)∧v = .string str∧n=(str.size:Nat):=by
 unfold lenS at hl
 split at hl
 ·cases hl
  obtain ⟨ad,c,hv,h1,h2,_⟩:=h.inv_rints
  exact .inl ⟨_,_,_,hv,rfl,h1,h2⟩
 ·cases hl
  obtain ⟨ad,c,vs,hv,h1,h2,_⟩:=h.inv_rseq
  exact .inl ⟨_,_,_,hv,rfl,h1,h2⟩
 ·split at hl
  ·rename_i hi
   cases hl
   obtain ⟨u,hb,ho⟩:=hh.ivec hi
   have hv:=slAt_some h.inv_vec hb
   obtain ⟨ad,c,h1,h2,h3⟩:=own_len ho
   exact .inl ⟨_,_,_,by rw [hv,h1],rfl,h2,h3⟩
  ·rename_i hi
   cases hl
   obtain ⟨u,_,hb,ho,_⟩:=hh.svec hi
   have hv:=slAt_some h.inv_vec hb
   obtain ⟨ad,c,h1,h2,h3⟩:=own_len ho
   exact .inl ⟨_,_,_,by rw [hv,h1],rfl,h2,h3⟩
  ·cases hl
 ·rename_i i off n'
  split at hl
  ·rename_i hal
   cases hl
   obtain ⟨b,hb,c,hv,h1,h2⟩:=live_blk hh hal h.inv_asl
   exact .inl ⟨_,_,_,hv,rfl,h1,h2⟩
  ·cases hl
 ·cases hl
  exact .inl ⟨_,_,_,h.inv_val,rfl,Nat.le_refl _,by simp [maxLen]⟩
 ·cases hl
  exact .inr ⟨_,rfl,h.inv_val,rfl⟩
 ·cases hl
theorem run_sliceBounds {len c:Nat} {lv hv:Option Value} {l h:Int} (hl:(lv=none∧l=0)∨∃ k,lv=some (.int k l)) (hh:(hv=none∧h=(len:Nat))∨∃ k,hv=some (.int k h))
  (h0:0≤l) (h1:l≤h) (h2:h≤(len:Nat)) (hc:len≤c):(Instr.sliceBounds true len c lv hv none).run E.P w = .ok (l.toNat,h.toNat,c) w:=by
 rcases hl with ⟨rfl,rfl⟩ | ⟨k1,rfl⟩<;>rcases hh with ⟨rfl,rfl⟩ | ⟨k2,rfl⟩
 ·simp [Instr.sliceBounds]
 ·have:h≤(c:Nat):=by omega
  simp [Instr.sliceBounds,Instr.sliceBound,Go.asIntOf,h1,this]
 ·simp [Instr.sliceBounds,Instr.sliceBound,Go.asIntOf,h0,h1]
 ·have h3:h≤(c:Nat):=by omega
  have h4:0≤h:=by omega
  have h5:l≤h:=h1
  simp only [Instr.sliceBounds,Instr.sliceBound,Go.asIntOf]
  simp [h0,h3,h4]
  omega
theorem bound_rep {x:Option Operand} {d i:Int} (h:Rel E O ts sh env a w) (hb:boundS (evr E ts sh) x d=some i):(x.map a.eval=none∧i=d)∨∃ k,x.map a.eval=some (.int k i):=by
 unfold boundS at hb
 split at hb
 ·cases hb; exact .inl ⟨rfl,rfl⟩
 ·rename_i o
  split at hb
  ·rename_i k i' l hi
   cases hb
   exact .inr ⟨k,by rw [Option.map_some,rep_asInt hi (evr_rep h o)]⟩
  ·cases hb
theorem run_slice_slice {t e:TypeId} {ad:Option Addr} {len c:Nat} {lv hv:Option Value} {l h:Int} (hd:desc E.P t = .slice e) (hne:tsize E.P e≠0)
  (hl:(lv=none∧l=0)∨∃ k,lv=some (.int k l)) (hh:(hv=none∧h=(len:Nat))∨∃ k,hv=some (.int k h)) (h0:0≤l) (h1:l≤h) (h2:h≤(len:Nat)) (hc:len≤c) :
  (Instr.sliceAt t (.slice ad len c) lv hv none).run E.P w = .ok (.slice (if c=l.toNat then ad else ad.map (·.add (l.toNat*tsize E.P e))) (h.toNat-l.toNat) (c-l.toNat)) w:=by
 have hu:=under_of_desc hd (by simp)
 obtain ⟨x,hi,hsz⟩:=info_of_tsize (P:=E.P) (t:=e) rfl hne
 have hb:=run_sliceBounds (E:=E) (w:=w) hl hh h0 h1 h2 hc
 simp only [Instr.sliceAt,Sem.run_bind,run_underlying hu,Result.andThen_ok,Instr.slice,hb,sizeOf,typeInfo]
 simp [hi,hsz]
theorem run_slice_full {t e:TypeId} {ad:Option Addr} {len c:Nat} {k1 k2:IntKind} (hd:desc E.P t = .slice e) (hne:tsize E.P e≠0) (hc:len≤c) :
  (Instr.sliceAt t (.slice ad len c) none (some (.int k1 (len:Nat))) (some (.int k2 (len:Nat)))).run E.P w = .ok (.slice (if len=0 then ad else ad.map (·.add (0*tsize E.P e))) len len) w:=by
 have hu:=under_of_desc hd (by simp)
 obtain ⟨x,hi,hsz⟩:=info_of_tsize (P:=E.P) (t:=e) rfl hne
 have hb:(Instr.sliceBounds true len c none (some (.int k1 (len:Nat))) (some (.int k2 (len:Nat)))).run E.P w = .ok (0,len,len) w:=by
  have h1:((len:Nat):Int)≤(c:Nat):=by omega
  simp [Instr.sliceBounds,Instr.sliceBound,Go.asIntOf,hc]
 simp only [Instr.sliceAt,Sem.run_bind,run_underlying hu,Result.andThen_ok,Instr.slice,hb,sizeOf,typeInfo]
 simp [hi,hsz]
theorem ROat.slice {ad:Option Addr} {vs:List Value} {c l h size:Nat} (hr:ROat O env w ad vs) (hlc:vs.length≤c*size) (hl:l≤h) (_hsz:0<size) :
  ROat O env w (if c=l then ad else ad.map (·.add (l*size))) ((vs.take (h*size)).drop (l*size)):=by
 rcases hr with hr | ⟨b,o',had,hO,he,hc⟩
 ·exact .inl (by simp [hr])
 ·split
  ·rename_i hcl
   refine .inl ?_
   apply List.drop_of_length_le
   rw [List.length_take]
   subst hcl
   omega
  ·refine .inr ⟨b,o'+l*size,by rw [had,Option.map_some,Addr.add_lit],hO,he,fun j u hu=>?_⟩
   rw [List.getElem?_drop,List.getElem?_take] at hu
   split at hu
   ·rw [Nat.add_assoc]; exact hc _ u hu
   ·cases hu
theorem boundL_rep {x:Option Operand} {d i:Nat} (h:Rel E O ts sh env a w) (hb:boundL (evr E ts sh) x d=some i):(x.map a.eval=none∧i=d)∨∃ k,x.map a.eval=some (.int k (i:Int)):=by
 cases x with
 | none=>simp [boundL] at hb; exact .inl ⟨rfl,hb.symm⟩
 | some x=>
  simp only [boundL] at hb
  split at hb
  ·rename_i k j hj
   split at hb
   ·rename_i h0
    cases hb
    have:=evr_rep h x
    rw [hj] at this
    exact .inr ⟨k,by rw [Option.map_some,this.inv_lit,Int.toNat_of_nonneg h0]⟩
   ·cases hb
  ·cases hb
theorem run_boundsL {P:Program} {n:Nat} {lv hv:Option Value} {l h:Nat} (hl:(lv=none∧l=0)∨∃ k,lv=some (.int k (l:Int))) (hh:(hv=none∧h=n)∨∃ k,hv=some (.int k (h:Int))) (h1:l≤h) (h2:h≤n) :
  (Instr.sliceBounds false n n lv hv none).run P w = .ok (l,h,n) w:=by
 rcases hl with ⟨rfl,rfl⟩ | ⟨k1,rfl⟩<;>rcases hh with ⟨rfl,rfl⟩ | ⟨k2,rfl⟩
 ·simp [Instr.sliceBounds]
 ·have:(0:Int)≤(h:Int)∧(h:Int)≤(n:Int):=⟨by omega,by omega⟩
  simp [Instr.sliceBounds,Instr.sliceBound,asIntOf,h2]
 ·simp [Instr.sliceBounds,Instr.sliceBound,asIntOf,h1]
 ·simp [Instr.sliceBounds,Instr.sliceBound,asIntOf,h1,h2]
/-- An array's slice: it hangs on nothing but slots. -/
theorem op_sliceA {t:TypeId} {x:Operand} {lo hi mx:Option Operand} {n:Nat} {e:TypeId} (ho:o.op = .slice t x lo hi mx) (hd:desc E.P t = .array n e) (h:Rel E O ts sh env a w) (hk:sliceS E (evr E ts sh) t x lo hi mx sh K):OpY E O o sh env a w K:=by
 have hx:=evr_rep h x
 unfold sliceS at hk
 split at hk
 ·rw [hd] at hk
  exact hk.elim
 rw [hd] at hk
 simp only at hk
 split at hk
 ·rename_i b off e1
  split at hk
  ·rename_i l h' hbl hbh
   split at hk
   ·rename_i hsz
    split at hk
    ·rename_i hn
     split at hk
     ·rename_i hal
      rw [e1] at hx
      obtain ⟨g,hb,hv⟩:=live_ptr h.heap hal hx.inv_ptr
      have hu:=under_of_desc hd (by simp)
      obtain ⟨x',hi',hs'⟩:=info_of_tsize (P:=E.P) (t:=e) hsz (by omega)
      have hl:=boundL_rep h hbl
      have hh:=boundL_rep h hbh
      refine opY_same (v := .slice (some ⟨g,off+l,none⟩) (h'-l) (n-l)) (fun w'=>?_) (.asl (by simp only [blkAt,hb]; exact ⟨n-l,rfl,by omega,by simp only [maxLen]; omega⟩)) hk
      have hne:¬n=l:=by omega
      have hrun:(Instr.sliceAt t (a.eval x) (lo.map a.eval) (hi.map a.eval) none).run E.P w' = .ok (.slice (some ⟨g,off+l,none⟩) (h'-l) (n-l)) w':=by
       simp only [Instr.sliceAt,Sem.run_bind,run_underlying hu,Result.andThen_ok,hv,Instr.sureAddr,Sem.run_pure]
       rw [run_boundsL hl hh (by omega) hn.2.1]
       simp [sizeOf,typeInfo,hi',hs',Addr.add_lit,hne]
      simp only [execOp,ho]
      simp [hrun]
     ·exact hk.elim
    ·exact hk.elim
   ·exact hk.elim
  ·exact hk.elim
 ·exact hk.elim
theorem op_slice {t:TypeId} {x:Operand} {lo hi mx:Option Operand} (ho:o.op = .slice t x lo hi mx) (h:Rel E O ts sh env a w) (hk:sliceS E (evr E ts sh) t x lo hi mx sh K):OpOK E O o sh env a w K:=by
 have hx:=evr_rep h x
 have key:∀ (v:Value) (s:SV A) (sh':List (SO A)) (env':List Wit),(Instr.sliceAt t (a.eval x) (lo.map a.eval) (hi.map a.eval) (mx.map a.eval)).run E.P w = .ok v w→Rep O env' w E.C s v→HR O env' w E.C sh'→Step env w env' w→K s sh'→OpOK E O o sh env a w K:=by
  intro v s sh' env' hrun hr hh hs hK
  exact opOK_of_run (v:=v) (by simp only [execOp,ho]; simp [hrun]) hr hh hs (fun _=>Old.refl _) hK
 unfold sliceS at hk
 split at hk
 ·rename_i m
  split at hk
  ·rename_i e hd
   split at hk
   ·exact hk.elim
   ·rename_i hne
    split at hk
    ·rename_i u xs e1
     split at hk
     ·rename_i g
      split at hk
      ·rename_i k1 h' l1 k2 k' l2 hi1 hi2
       split at hk
       ·rename_i hsz
        obtain ⟨hh1,hm1,hK⟩:=hk
        rw [e1] at hx
        obtain ⟨ad,c,vs,hv,h3,h4,h7,h5,h8⟩:=hx.inv_rseq
        have hg:=rep_asInt hi1 (evr_rep h g)
        have hm:=rep_asInt hi2 (evr_rep h m)
        simp only [Option.map_none,Option.map_some,hv,hg,hm,hh1,hm1] at key
        have hrun:=run_slice_full (E:=E) (w:=w) (ad:=ad) (len:=xs.length) (c:=c) (k1:=k1) (k2:=k2) hd hne h3
        refine key _ _ _ _ hrun ?_ h.heap (Step.refl _ _) hK
        refine .rful _ vs (by omega) h7 ?_ h8
        have h6:=h5.slice (c:=xs.length) (l:=0) (h:=xs.length) (size:=E.C.size u) (by rw [h7]; exact Nat.le_refl _) (Nat.zero_le _) (by omega)
        rw [hsz]
        rw [Nat.zero_mul] at h6 ⊢
        rw [← h7,List.take_length] at h6
        exact h6
       ·exact hk.elim
      ·exact hk.elim
     ·exact hk.elim
    ·exact hk.elim
  ·exact hk.elim
 ·split at hk
  ·rename_i e hd
   split at hk
   ·exact hk.elim
   ·rename_i hne
    split at hk
    ·exact hk.elim
    ·rename_i n l0 hlen
     split at hk
     ·rename_i l h' hbl hbh
      have hl:=bound_rep h hbl
      have hh:=bound_rep h hbh
      split at hk
      ·rename_i k xs e1
       rw [e1] at hx hlen
       simp only [lenS,Option.some.injEq,Prod.mk.injEq] at hlen
       obtain ⟨hn,_⟩:=hlen
       split at hk
       ·rename_i hsz
        obtain ⟨h0,h1,h2,hK⟩:=hk
        obtain ⟨ad,c,hv,h3,h4,h5⟩:=hx.inv_rints
        rw [hv] at key
        have hrun:=run_slice_slice (E:=E) (w:=w) (ad:=ad) (c:=c) hd hne hl (by rw [hn]; exact hh) h0 h1 (by rw [hn]; exact h2) h3
        refine key _ _ _ _ hrun ?_ h.heap (Step.refl _ _) hK
        have hlen2:((xs.take h'.toNat).drop l.toNat).length=h'.toNat-l.toNat:=by simp; omega
        have:=Rep.rints (O:=O) (env:=env) (w:=w) (C:=E.C) (k:=k) (xs:=(xs.take h'.toNat).drop l.toNat) (if c=l.toNat then ad else ad.map (·.add (l.toNat*tsize E.P e))) (c-l.toNat) (by omega) (by omega) (by
         have h6:=h5.slice (c:=c) (l:=l.toNat) (h:=h'.toNat) (size:=1) (by simpa using h3) (by omega) (by omega)
         rw [hsz]
         simpa [List.map_drop,List.map_take] using h6)
        rw [hlen2] at this
        exact this
       ·exact hk.elim
      ·rename_i u xs e1
       rw [e1] at hx hlen
       simp only [lenS,Option.some.injEq,Prod.mk.injEq] at hlen
       obtain ⟨hn,_⟩:=hlen
       split at hk
       ·rename_i hsz
        obtain ⟨h0,h1,h2,hK⟩:=hk
        obtain ⟨ad,c,vs,hv,h3,h4,h7,h5,h8⟩:=hx.inv_rseq
        rw [hv] at key
        have hrun:=run_slice_slice (E:=E) (w:=w) (ad:=ad) (c:=c) hd hne hl (by rw [hn]; exact hh) h0 h1 (by rw [hn]; exact h2) h3
        refine key _ _ _ _ hrun ?_ h.heap (Step.refl _ _) hK
        have hlen2:((xs.take h'.toNat).drop l.toNat).length=h'.toNat-l.toNat:=by simp; omega
        have hmul:h'.toNat*E.C.size u≤xs.length*E.C.size u:=Nat.mul_le_mul_right _ (by omega)
        have:=Rep.rseq (O:=O) (env:=env) (w:=w) (C:=E.C) (xs:=(xs.take h'.toNat).drop l.toNat) (if c=l.toNat then ad else ad.map (·.add (l.toNat*tsize E.P e))) (c-l.toNat) ((vs.take (h'.toNat*E.C.size u)).drop (l.toNat*E.C.size u)) (by omega) (by omega)
         (by rw [hlen2,List.length_drop,List.length_take,h7,Nat.min_eq_left hmul,Nat.sub_mul])
         (by rw [hsz]; exact h5.slice (by rw [h7]; exact Nat.mul_le_mul_right _ h3) (by omega) (by omega))
         (fun j y hj=>by
          rw [List.getElem?_drop,List.getElem?_take] at hj
          split at hj
          ·rename_i hj2
           have h9:=h8 _ y hj
           rw [List.drop_drop,← Nat.add_mul,List.drop_take]
           rw [List.take_take]
           have:(l.toNat+j)*E.C.size u+E.C.size u≤h'.toNat*E.C.size u:=by
            rw [← Nat.succ_mul]; exact Nat.mul_le_mul_right _ (by omega)
           rw [Nat.min_eq_left (by omega)]
           exact h9
          ·cases hj)
        rw [hlen2] at this
        exact this
       ·exact hk.elim
      ·rename_i i e1
       rw [e1] at hx hlen
       split at hk
       ·rename_i e' k xs hi'
        split at hk
        ·rename_i hsz
         obtain ⟨h0,h2,hK⟩:=hk
         simp only [lenS,hi',Option.some.injEq,Prod.mk.injEq] at hlen
         obtain ⟨hn,_⟩:=hlen
         obtain ⟨u,hb,hown⟩:=h.heap.ivec hi'
         have hv:=slAt_some hx.inv_vec hb
         obtain ⟨ad,c,h3,h4,h5⟩:=own_len hown
         have hl0:l=0:=by simp [boundS] at hbl; exact hbl.symm
         subst hl0
         rw [hv,h3] at key
         have hrun:=run_slice_slice (E:=E) (w:=w) (ad:=ad) (c:=c) hd hne hl (by rw [hn]; exact hh) (Int.le_refl _) h0 (by rw [hn]; exact h2) h4
         have hsame:(if c=(0:Int).toNat then ad else ad.map (·.add ((0:Int).toNat*tsize E.P e)))=ad:=by
          split
          ·rfl
          ·cases ad<;>simp [Addr.add]
         rw [hsame] at hrun
         simp only [Int.toNat_zero,Nat.sub_zero] at hrun
         rw [setNth_eq,snoc_eq,cnt_eq] at hK
         have hnext:=h.heap.next i none ⟨rfl,rfl,rfl,Nat.le_refl _,fun _ _ _=>rfl⟩ (fun k hk=>by cases hk) (.sl (.slice ad h'.toNat c)) (fun b hb'=>by
           refine .inl ⟨_,hb,?_⟩
           rw [h3]; simp only [Wit.owns] at hb' ⊢
           cases ad<;>first | (simp [Value.ownBlock] at hb'; done) | simpa [Value.ownBlock] using hb') (fun b hb'=>by
           refine h.heap.lt b ⟨i,_,hb,?_⟩
           rw [h3]; simp only [Wit.owns] at hb' ⊢
           cases ad<;>first | (simp [Value.ownBlock] at hb'; done) | simpa [Value.ownBlock] using hb') (.ivec e' k (xs.take h'.toNat)) (fun hs=>by
          subst h3
          have hmin:(xs.take h'.toNat).length=h'.toNat:=by simp; omega
          refine ⟨by simp,?_⟩
          rcases hown.2 with ⟨h6,h7⟩ | ⟨g,cap,cur,h6,h7,h8,h9,h10,h11,h12⟩
          ·simp only [Value.slice.injEq] at h6
           obtain ⟨rfl,_,rfl⟩:=h6
           refine .inl ⟨?_,by omega⟩
           have:h'.toNat=0:=by omega
           rw [this]
          ·simp only [Value.slice.injEq] at h6
           obtain ⟨rfl,_,rfl⟩:=h6
           refine .inr ⟨g,_,cur,by rw [hmin],h7,h8,by omega,h10,h11,?_⟩
           rw [hmin,List.map_take,← h12,List.take_take]
           congr 1
           omega)
         refine key _ _ _ _ hrun (.vec ?_) hnext.1 hnext.2 hK
         have:(setNth sh i SO.dead).length=(env.set i Wit.dead).length:=by simp [setNth_eq,h.heap.len]
         rw [setNth_eq] at this
         rw [this]
         simp [slAt]
        ·exact hk.elim
       ·rename_i lo' e' k xs hi'
        split at hk
        ·rename_i hsz
         obtain ⟨h0,h1,h2,hK⟩:=hk
         simp only [lenS,hi',Option.some.injEq,Prod.mk.injEq] at hlen
         obtain ⟨hn,_⟩:=hlen
         obtain ⟨u,hb,hfh,hfs,hfr⟩:=h.heap.freezeI hi'
         have hv:=slAt_some hx.inv_vec hb
         obtain ⟨ad,c,h3,h4,h5,hro⟩:=hfr.inv_rints
         rw [hv,h3] at key
         have hrun:=run_slice_slice (E:=E) (w:=w) (ad:=ad) (c:=c) hd hne hl (by rw [hn]; exact hh) h0 h1 (by rw [hn]; exact h2) h4
         refine key _ _ _ _ hrun ?_ hfh hfs hK
         have hlen2:((xs.take h'.toNat).drop l.toNat).length=h'.toNat-l.toNat:=by simp; omega
         have:=Rep.rints (O:=O) (env:=env.set i (.ro u)) (w:=w) (C:=E.C) (k:=k) (xs:=(xs.take h'.toNat).drop l.toNat) (if c=l.toNat then ad else ad.map (·.add (l.toNat*tsize E.P e))) (c-l.toNat) (by omega) (by omega) (by
          have h6:=hro.slice (c:=c) (l:=l.toNat) (h:=h'.toNat) (size:=1) (by simpa using h4) (by omega) (by omega)
          rw [hsz]
          simpa [List.map_drop,List.map_take] using h6)
         rw [hlen2] at this
         exact this
        ·exact hk.elim
       ·exact hk.elim
      ·rename_i e1
       rw [e1] at hx hlen
       split at hk
       ·rename_i hl0
        split at hk
        ·rename_i hh0
         subst hl0; subst hh0
         simp only [lenS,Option.some.injEq,Prod.mk.injEq] at hlen
         obtain ⟨hn,_⟩:=hlen
         rw [hx.inv_val] at key
         have hrun:=run_slice_slice (E:=E) (w:=w) (ad:=none) (len:=0) (c:=0) hd hne hl (by rw [show ((0:Nat):Int)=n from hn]; exact hh) (Int.le_refl _) (Int.le_refl _) (Int.le_refl _) (Nat.le_refl _)
         exact key _ _ _ _ (by simpa using hrun) .val h.heap (Step.refl _ _) hk
        ·exact hk.elim
       ·exact hk.elim
      ·exact hk.elim
     ·exact hk.elim
  ·rename_i n e hd
   refine (op_sliceA (mx:=none) ho hd h ?_).ok h
   unfold sliceS
   rw [hd]
   exact hk
  ·exact hk.elim
end
end Go.Eng

/-! The engine's operations are right: operators of two operands. Conditions: none. -/
namespace Go.Eng
open Go
variable {A:Nat→Type}
section
variable {E:Eng A} {O:Nat→Prop} {ts:List (SV A)} {sh:List (SO A)} {env:List Wit} {a:Act} {w:World} {o:Oper} {K:Pred A} {C:Enc A}
theorem run_guard_int {op:BinOp} {t:TypeId} {x y:Operand} {k k':IntKind} {p q:Int}:(eqGuard op t x y (.int k p) (.int k' q)).run E.P w = .ok () w:=by
 unfold eqGuard
 cases op<;>rfl
theorem eqItems_int {P:Program} {d:Nat} {e:TypeId} {k:IntKind} (he:P.underlying e=some (.int k)) (hsz:P.cellsOf e=1) (hd:desc P e = .int k) :
  ∀ (is:List Nat) (xs ys:Array Value) (k':IntKind) (ps qs:List Int),(∀ i∈is,∃ p q,xs[i]?=some (.int k' p)∧ys[i]?=some (.int k' q)∧ps[i]?=some p∧qs[i]?=some q) →
   (Op.eqItems (d+1) e 1 xs ys is).run P w = .ok (is.all fun i=>ps[i]?==qs[i]?) w
 | [],_,_,_,_,_,_=>by simp [Op.eqItems]
 | i::is,xs,ys,k',ps,qs,h=>by
  obtain ⟨p,q,h1,h2,h3,h4⟩:=h i (List.mem_cons_self)
  have ih:=eqItems_int (d:=d) he hsz hd is xs ys k' ps qs (fun j hj=>h j (List.mem_cons_of_mem _ hj))
  have hp:∀ (zs:Array Value) (z:Value),zs[i]?=some z→(part e zs (i*1)).run P w = .ok z w:=by
   intro zs z hz
   simp only [part,Sem.run_bind,under_not (P:=P) (t:=e) (by simp [aggT,hd]) (by simp [hd]),Result.andThen_ok]
   simp [hz]
  simp only [Op.eqItems,Sem.run_bind,hp xs _ h1,hp ys _ h2,Result.andThen_ok,run_equalIn_int w d e k' k p q he]
  cases hpq:(p==q)
  ·simp only [Bool.not_false,if_true,Sem.run_pure,List.all_cons,h3,h4]
   have:((some p==some q)=false):=by simpa using hpq
   simp [this]
  ·simp only [Bool.not_true,Bool.false_eq_true,if_false,ih,List.all_cons,h3,h4]
   have:((some p==some q)=true):=by simpa using hpq
   simp [this]
theorem all_range_beq {n:Nat} {ps qs:List Int} (h1:ps.length=n) (h2:qs.length=n):((List.range n).all fun i=>ps[i]?==qs[i]?)=(ps==qs):=by
 rw [Bool.eq_iff_iff]
 simp only [List.all_eq_true,List.mem_range,beq_iff_eq]
 constructor
 ·intro h
  apply List.ext_getElem? 
  intro i
  by_cases hi:i<n
  ·exact h i hi
  ·rw [List.getElem?_eq_none (by omega),List.getElem?_eq_none (by omega)]
 ·intro h i _; rw [h]
theorem cellsOf_eq {P:Program} {t:TypeId} {n:Nat} (h:tsize P t=n) (hn:n≠0):P.cellsOf t=n:=by
 obtain ⟨i,hi,hs⟩:=info_of_tsize h hn
 simp [Program.cellsOf,hi,hs]
/-- Equality of integers, of arrays of integers. -/
theorem run_eq1 {t:TypeId} {x y:SV A} {b:Bool} {vx vy:Value} (d:Nat) (h:eq1 E.P t x y=some b) (hx:Rep O env w C x vx) (hy:Rep O env w C y vy) (w':World) :
  (Op.equalIn (d+2) t vx vy).run E.P w' = .ok b w':=by
 unfold eq1 at h
 split at h
 ·rename_i k0 hd
  split at h
  ·rename_i k p l k' q m h1 h2
   split at h
   ·rename_i hk
    subst hk
    cases h
    rw [rep_asInt h1 hx,rep_asInt h2 hy]
    exact run_equalIn_int w' (d+1) t k k0 p q (under_of_desc hd (by simp))
   ·cases h
  ·cases h
 ·rename_i n e hd
  split at h
  ·rename_i k0 hde
   split at h
   ·rename_i hsz
    split at h
    ·rename_i k m xs k' m' ys
     split at h
     ·rename_i hk
      split at h
      ·rename_i hm
       split at h
       ·rename_i hm'
        cases h
        subst hk; subst hm; subst hm'
        obtain ⟨us,rfl,hr⟩:=hx.inv_agg
        obtain ⟨vs,rfl,hs⟩:=hy.inv_agg
        obtain ⟨us',h1,rfl,h2⟩:=hr.inv_run
        obtain ⟨vs',h3,rfl,h4⟩:=hs.inv_run
        rw [h2.inv_nil,h4.inv_nil,List.append_nil,List.append_nil]
        obtain ⟨i,hi,his⟩:=info_of_tsize (P:=E.P) (t:=e) hsz (by omega)
        have hc1:=cellsOf_eq (P:=E.P) hsz (by omega)
        rw [run_equalIn_array w' (d+1) _ _ (under_of_desc hd (by simp)) hi,hc1]
        rw [eqItems_int (d:=d) (k:=k0) (under_of_desc hde (by simp)) hc1 hde (List.range _) _ _ k xs ys (fun i hi=>by
         have hi:=List.mem_range.1 hi
         exact ⟨xs[i]'(by omega),ys[i]'(by omega),by simp [h1,hi],by simp [h3,hi],by simp [h1,hi],by simp [h3,hi]⟩)]
        rw [all_range_beq h1 h3]
       ·cases h
      ·cases h
     ·cases h
    ·cases h
   ·cases h
  ·cases h
 ·cases h
theorem run_eqFs {P':Program} {x y:SL A} {us vs:List Value} (hP:P'=E.P) (d:Nat) (hx:RepL O env w E.C x us) (hy:RepL O env w E.C y vs) (w':World):∀ {fs:List Field} {b:Bool},eqFs E.P x y fs=some b →
  (Op.eqFields (d+2) us.toArray vs.toArray fs).run E.P w' = .ok b w'
 | [],b,h=>by simp [eqFs] at h; simp [Op.eqFields,h]
 | f::fs,b,h=>by
  simp only [eqFs] at h
  split at h
  ·cases h
  ·rename_i hn
   split at h
   ·rename_i hok
    split at h
    ·rename_i p q hp hq
     split at h
     ·rename_i r s hr hs
      cases h
      obtain ⟨v1,h1,h2⟩:=run_part hok hx hp
      obtain ⟨v2,h3,h4⟩:=run_part hok hy hq
      have h5:=run_eq1 (E:=E) (w:=w) d hr h2 h4 w'
      have h6:=run_eqFs hP d hx hy w' hs
      rw [Op.eqFields]
      simp only [ne_eq,hn,not_false_eq_true,if_true,Sem.run_bind,h1,h3,h5,Result.andThen_ok]
      cases r
      ·simp
      ·simpa using h6
     ·cases h
    ·cases h
   ·cases h
section
variable {P:Program} {d:Nat} {t:TypeId} {ms:Array (String×TypeId)}
theorem eqn_nil_nil (hu:P.underlying t=some (.interface ms)):(Op.equalIn (d+1) t .nilIface .nilIface).run P w = .ok true w:=by
 simp [Op.equalIn,run_underlying hu]
theorem eqn_nil_some (hu:P.underlying t=some (.interface ms)) (t1:TypeId) (u:Value):(Op.equalIn (d+1) t .nilIface (.iface t1 u)).run P w = .ok false w:=by
 simp [Op.equalIn,run_underlying hu]
theorem eqn_some_nil (hu:P.underlying t=some (.interface ms)) (t1:TypeId) (u:Value):(Op.equalIn (d+1) t (.iface t1 u) .nilIface).run P w = .ok false w:=by
 simp [Op.equalIn,run_underlying hu]
theorem eqn_some_ne (hu:P.underlying t=some (.interface ms)) {t1 t2:TypeId} (u v:Value) (h:¬t1=t2):(Op.equalIn (d+1) t (.iface t1 u) (.iface t2 v)).run P w = .ok false w:=by
 simp [Op.equalIn,run_underlying hu,h]
theorem eqn_some_int (hu:P.underlying t=some (.interface ms)) {t1:TypeId} {k k0:IntKind} {i:TypeInfo} (p q:Int) (hu1:P.underlying t1=some (.int k0)) (hi:P.info? t1=some i) (hc:i.comparable=true) :
  (Op.equalIn (d+2) t (.iface t1 (.int k p)) (.iface t1 (.int k q))).run P w = .ok (p==q) w:=by
 simp [Op.equalIn,run_underlying hu,run_underlying hu1,typeInfo,hi,hc]
theorem eqn_ptr_nil {e:TypeId} (hu:P.underlying t=some (.pointer e)):(Op.equalIn (d+1) t (.pointer none) (.pointer none)).run P w = .ok true w:=by
 simp [Op.equalIn,run_underlying hu]
theorem eqn_ptr_some {e:TypeId} (hu:P.underlying t=some (.pointer e)) (ad:Addr):(Op.equalIn (d+1) t (.pointer (some ad)) (.pointer none)).run P w = .ok false w:=by
 simp [Op.equalIn,run_underlying hu]
theorem eqn_ptr_some' {e:TypeId} (hu:P.underlying t=some (.pointer e)) (ad:Addr):(Op.equalIn (d+1) t (.pointer none) (.pointer (some ad))).run P w = .ok false w:=by
 simp [Op.equalIn,run_underlying hu]
end
theorem eq_fin {t:TypeId} {x y:Operand} {b:Bool} (vx vy:Value) (op:BinOp) (hop:op = .eql∨op = .neq) (h1:(eqGuard op t x y vx vy).run E.P w = .ok () w) (h2:(Op.equalIn 10000 t vx vy).run E.P w = .ok b w)
  (h3:∀ op',op' = .eql∨op' = .neq→Go.binOp op' t vx vy=(if op' = .eql then (do pure (.bool (← Op.equal t vx vy))) else (do pure (.bool (!(← Op.equal t vx vy)))))) :
  (do eqGuard op t x y vx vy; Go.binOp op t vx vy:Sem Value).run E.P w = .ok (.bool (if op = .eql then b else !b)) w:=by
 rw [Sem.run_bind,h1,Result.andThen_ok,h3 op hop]
 rcases hop with rfl | rfl
 ·simp only [Op.equal,Op.maxDepth,if_true,Sem.run_bind]
  rw [h2]; rfl
 ·simp only [Op.equal,Op.maxDepth,if_neg (show ¬(BinOp.neq=BinOp.eql) by decide),Sem.run_bind]
  rw [h2]; rfl
theorem guard_nil {P:Program} {w:World} {t:TypeId} {x y:Operand} {op:BinOp} (hop:op = .eql∨op = .neq) (hc:(isConst x||isConst y)=true):(eqGuard op t x y .nilIface .nilIface).run P w = .ok () w:=by
 have hcst:∀ (z:Operand),isConst z=true→∃ c,z = .const c:=by intro z hz; cases z<;>simp [isConst] at hz; exact ⟨_,rfl⟩
 simp only [Bool.or_eq_true] at hc
 rcases hc with hc | hc
 ·obtain ⟨c,rfl⟩:=hcst _ hc
  unfold eqGuard; rcases hop with rfl | rfl<;>simp
 ·obtain ⟨c,rfl⟩:=hcst _ hc
  unfold eqGuard; rcases hop with rfl | rfl<;>simp
/-- What '==' comes to. -/
theorem run_eqlS {t:TypeId} {x y:Operand} {sx sy:SV A} {b:Bool} {vx vy:Value} (h:eqlS E t (isConst x||isConst y) sx sy=some b) (hx:Rep O env w E.C sx vx) (hy:Rep O env w E.C sy vy) (op:BinOp) (hop:op = .eql∨op = .neq) (w':World) :
  (do eqGuard op t x y vx vy; Go.binOp op t vx vy:Sem Value).run E.P w' = .ok (.bool (if op = .eql then b else !b)) w':=by
 have fin:=fun (vx vy:Value) h1 h2 h3=>eq_fin (E:=E) (w:=w') (t:=t) (x:=x) (y:=y) (b:=b) vx vy op hop h1 h2 h3
 unfold eqlS at h
 split at h
 ·rename_i hd
  have hu:=under_of_desc hd (by simp)
  split at h
  ·rename_i p q hp hq
   cases h
   rw [rep_asBool hp hx,rep_asBool hq hy]
   refine fin _ _ (by unfold eqGuard; rcases hop with rfl | rfl<;>rfl) (run_equalIn_bool w' 9999 t p q hu) (fun op' h=>?_)
   rcases h with rfl | rfl<;>rfl
  ·cases h
 ·rename_i ms hd
  have hu:=under_of_desc hd (by simp)
  split at h
  ·split at h
   ·rename_i hc
    cases h
    rw [hx.inv_val,hy.inv_val]
    exact fin _ _ (guard_nil hop hc) (eqn_nil_nil (d:=9999) hu) (fun op' h=>by rcases h with rfl | rfl<;>rfl)
   ·cases h
  ·cases h
   obtain ⟨u,rfl,_⟩:=hy.inv_iface
   rw [hx.inv_val]
   exact fin _ _ (by unfold eqGuard; rcases hop with rfl | rfl<;>rfl) (eqn_nil_some (d:=9999) hu _ _) (fun op' h=>by rcases h with rfl | rfl<;>rfl)
  ·cases h
   obtain ⟨u,rfl,_⟩:=hx.inv_iface
   rw [hy.inv_val]
   exact fin _ _ (by unfold eqGuard; rcases hop with rfl | rfl<;>rfl) (eqn_some_nil (d:=9999) hu _ _) (fun op' h=>by rcases h with rfl | rfl<;>rfl)
  ·split at h
   ·rename_i hc
    cases h
    rw [hy.inv_val]
    rcases hx.inv_err with ⟨hn,rfl⟩ | ⟨hn,rfl⟩
    ·have:=fin .nilIface .nilIface (guard_nil hop hc) 
     subst hn
     exact this (eqn_nil_nil (d:=9999) hu) (fun op' h=>by rcases h with rfl | rfl<;>rfl)
    ·refine fin _ _ (by unfold eqGuard; rcases hop with rfl | rfl<;>rfl) ?_ (fun op' h=>by rcases h with rfl | rfl<;>rfl)
     rw [eqn_some_nil (d:=9999) hu,show ∀ n:Int,n≠0→(n==0)=false from fun n h=>by simpa using h]
     exact hn
   ·cases h
  ·split at h
   ·rename_i hc
    cases h
    rw [hx.inv_val]
    rcases hy.inv_err with ⟨hn,rfl⟩ | ⟨hn,rfl⟩
    ·have:=fin .nilIface .nilIface (guard_nil hop hc) 
     subst hn
     exact this (eqn_nil_nil (d:=9999) hu) (fun op' h=>by rcases h with rfl | rfl<;>rfl)
    ·refine fin _ _ (by unfold eqGuard; rcases hop with rfl | rfl<;>rfl) ?_ (fun op' h=>by rcases h with rfl | rfl<;>rfl)
     rw [eqn_nil_some (d:=9999) hu,show ∀ n:Int,n≠0→(n==0)=false from fun n h=>by simpa using h]
     exact hn
   ·cases h
  ·rename_i t1 v t2 u
   obtain ⟨vx',rfl,h1⟩:=hx.inv_iface
   obtain ⟨vy',rfl,h2⟩:=hy.inv_iface
   split at h
   ·rename_i k p l k' q m hp hq
    rw [rep_asInt hp h1,rep_asInt hq h2]
    split at h
    ·rename_i ht
     subst ht
     split at h
     ·rename_i hk
      subst hk
      split at h
      ·rename_i hc
       split at h
       ·rename_i k0 hd1
        cases h
        have hu1:=under_of_desc hd1 (by simp)
        unfold cmpT at hc
        split at hc
        ·rename_i i hi
         exact fin _ _ (by unfold eqGuard; rcases hop with rfl | rfl<;>rfl) (eqn_some_int (d:=9998) hu _ _ hu1 hi hc) (fun op' h=>by rcases h with rfl | rfl<;>rfl)
        ·cases hc
       ·cases h
      ·cases h
     ·cases h
    ·rename_i ht
     cases h
     refine fin _ _ (by unfold eqGuard; rcases hop with rfl | rfl<;>rfl) (eqn_some_ne (d:=9999) hu _ _ ht) (fun op' h=>by rcases h with rfl | rfl<;>rfl)
   ·cases h
  ·cases h
 ·rename_i e hd
  have hu:=under_of_desc hd (by simp)
  split at h
  ·cases h
   rw [hx.inv_val,hy.inv_val]
   refine fin _ _ (by unfold eqGuard; rcases hop with rfl | rfl<;>rfl) (eqn_ptr_nil (d:=9999) hu) (fun op' h=>by rcases h with rfl | rfl<;>rfl)
  ·cases h
 ·rename_i n e hd
  split at h
  ·rename_i hok
   have hag:∃ us vs,vx = .agg us∧vy = .agg vs:=by
    unfold eq1 at h
    rw [hd] at h
    simp only at h
    split at h
    ·split at h
     ·split at h
      ·obtain ⟨us,h1,_⟩:=hx.inv_agg
       obtain ⟨vs,h2,_⟩:=hy.inv_agg
       exact ⟨_,_,h1,h2⟩
      ·cases h
     ·cases h
    ·cases h
   have h2:=run_eq1 (E:=E) (w:=w) 9998 h hx hy w'
   obtain ⟨us,vs,rfl,rfl⟩:=hag
   refine fin _ _ (run_eqGuard_agg w' op t x y us vs (E.eqOk t hok).2) h2 (fun op' h=>by rcases h with rfl | rfl<;>rfl)
  ·cases h
 ·rename_i fs hd
  split at h
  ·rename_i hok
   split at h
   ·rename_i p q
    obtain ⟨us,rfl,h1⟩:=hx.inv_agg
    obtain ⟨vs,rfl,h2⟩:=hy.inv_agg
    have hu:=under_of_desc hd (by simp)
    have hf:E.P.fieldsOf t=fs:=by simp [Program.fieldsOf,hu]
    have h3:=run_eqFs (E:=E) (w:=w) rfl 9997 h1 h2 w' h
    refine fin _ _ (run_eqGuard_agg w' op t x y _ _ (E.eqOk t hok).2) ?_ (fun op' h=>by rcases h with rfl | rfl<;>rfl)
    rw [run_equalIn_struct w' 9999 t _ _ (by rw [hf]; exact hu) (E.eqOk t hok).1,hf]
    exact h3
   ·cases h
  ·cases h
 ·split at h
  ·cases h
   rw [hx.inv_val,hy.inv_val]
   rcases hop with rfl | rfl<;>simp [eqGuard,Go.binOp,Op.stringOp]
  ·cases h
 ·cases h
theorem run_ptrNil {t:TypeId} {x y:Operand} {sx sy:SV A} {vx vy:Value} (hh:HR O env w E.C sh) (h:ptrNil E t sh sx sy=true) (hx:Rep O env w E.C sx vx) (hy:Rep O env w E.C sy vy) (op:BinOp) (hop:op = .eql∨op = .neq) (w':World) :
  (do eqGuard op t x y vx vy; Go.binOp op t vx vy:Sem Value).run E.P w' = .ok (.bool (if op = .eql then false else !false)) w':=by
 unfold ptrNil at h
 split at h
 ·rename_i e hd
  have hu:=under_of_desc hd (by simp)
  split at h
  ·obtain ⟨b,_,hv⟩:=live_ptr hh h hx.inv_ptr
   rw [hv,hy.inv_val]
   exact eq_fin (b:=false) _ _ op hop (by unfold eqGuard; rcases hop with rfl | rfl<;>rfl) (eqn_ptr_some (d:=9999) hu _) (fun op' h=>by rcases h with rfl | rfl<;>rfl)
  ·obtain ⟨b,_,hv⟩:=live_ptr hh h hy.inv_ptr
   rw [hv,hx.inv_val]
   exact eq_fin (b:=false) _ _ op hop (by unfold eqGuard; rcases hop with rfl | rfl<;>rfl) (eqn_ptr_some' (d:=9999) hu _) (fun op' h=>by rcases h with rfl | rfl<;>rfl)
  ·cases h
 ·cases h
theorem eqn_slice {P:Program} {w:World} {d:Nat} {t e:TypeId} (hu:P.underlying t=some (.slice e)) (a:Option Addr) (n c:Nat):(Op.equalIn (d+1) t (.slice a n c) (.slice none 0 0)).run P w = .ok a.isNone w:=by
 cases a<;>simp [Op.equalIn,run_underlying hu]
theorem ROat_some {A:Option Addr} {vs:List Value} (h:ROat O env w A vs) (hne:vs≠[]):A.isNone=false:=by
 rcases h with h | ⟨b,o,h,_⟩
 ·exact absurd h hne
 ·rw [h]; rfl
theorem run_slNil {t:TypeId} {x y:Operand} {sx sy:SV A} {vx vy:Value} {Pb:Bool→Prop} (hh:HR O env w E.C sh) (h:slNil E t sh sx sy=some Pb) (hx:Rep O env w E.C sx vx) (hy:Rep O env w E.C sy vy) (op:BinOp) (hop:op = .eql∨op = .neq) :
  ∃ b,Pb b∧∀ w',(do eqGuard op t x y vx vy; Go.binOp op t vx vy:Sem Value).run E.P w' = .ok (.bool (if op = .eql then b else !b)) w':=by
 unfold slNil at h
 split at h
 case h_2=>cases h
 rename_i e hd
 have hu:=under_of_desc hd (by simp)
 split at h
 case h_2=>cases h
 rw [hy.inv_val]
 have fin:∀ (a:Option Addr) (n c:Nat),vx = .slice a n c→∀ w',(do eqGuard op t x y vx (.slice none 0 0); Go.binOp op t vx (.slice none 0 0):Sem Value).run E.P w' = .ok (.bool (if op = .eql then a.isNone else !a.isNone)) w':=by
  intro a n c hv w'
  rw [hv]
  exact eq_fin _ _ op hop (by unfold eqGuard; rcases hop with rfl | rfl<;>rfl) (eqn_slice (d:=9999) hu a n c) (fun op' h=>by rcases h with rfl | rfl<;>rfl)
 split at h
 ·rename_i k xs
  cases h
  obtain ⟨a,c,hv,_,_,hro⟩:=hx.inv_rints
  exact ⟨a.isNone,fun hne=>ROat_some hro (by simpa using hne),fin _ _ _ hv⟩
 ·rename_i u xs
  split at h
  ·cases h
  rename_i hz
  cases h
  obtain ⟨a,c,vs,hv,_,_,h3,hro,hxs⟩:=hx.inv_rseq
  refine ⟨a.isNone,fun hne=>ROat_some hro (fun e=>?_),fin _ _ _ hv⟩
  rw [e] at h3
  have h4:0<xs.length:=List.length_pos_iff.2 hne
  have h5:0<E.C.size u:=Nat.pos_of_ne_zero hz
  have h6:0<xs.length*E.C.size u:=Nat.mul_pos h4 h5
  simp at h3
  omega
 ·rename_i i
  have hv0:=hx.inv_vec
  split at h
  ·rename_i e' k xs hi
   cases h
   obtain ⟨u,hu',hown⟩:=hh.ivec hi
   have hv:=slAt_some hv0 hu'
   rcases hown.2 with ⟨h1,h2⟩ | ⟨g,cap,cur,h1,_⟩
   ·exact ⟨true,fun hne=>absurd (List.eq_nil_of_length_eq_zero h2) hne,fin none 0 0 (hv.trans h1)⟩
   ·exact ⟨false,fun _=>rfl,fin _ _ _ (hv.trans h1)⟩
  ·rename_i e' xs hi
   cases h
   obtain ⟨u,_,hu',hown,_⟩:=hh.svec hi
   have hv:=slAt_some hv0 hu'
   rcases hown.2 with ⟨h1,h2⟩ | ⟨g,cap,cur,h1,_⟩
   ·exact ⟨true,fun hne=>absurd (List.eq_nil_of_length_eq_zero h2) hne,fin none 0 0 (hv.trans h1)⟩
   ·exact ⟨false,fun _=>rfl,fin _ _ _ (hv.trans h1)⟩
  ·cases h
 ·cases h
  exact ⟨true,rfl,fin none 0 0 hx.inv_val⟩
 ·cases h
theorem op_binOp {op:BinOp} {t t':TypeId} {x y:Operand} (ho:o.op = .binOp op t x y t') (h:Rel E O ts sh env a w) (hk:binS E op t (isConst x||isConst y) sh (evr E ts sh x) (evr E ts sh y) fun v=>K v sh):OpY E O o sh env a w K:=by
 have hx:=evr_rep h x
 have hy:=evr_rep h y
 have key:∀ (v:Value) (s:SV A),(∀ w',(do eqGuard op t x y (a.eval x) (a.eval y); Go.binOp op t (a.eval x) (a.eval y):Sem Value).run E.P w' = .ok v w')→Rep O env w E.C s v→K s sh→OpY E O o sh env a w K:=by
  intro v s hrun hr hK
  refine opY_same (v:=v) (fun w'=>?_) hr hK
  simp only [execOp,ho]
  rw [Sem.run_bind,hrun]
  rfl
 unfold binS at hk
 split at hk
 ·rename_i k p l k' q m hp hq
  rw [rep_asInt hp hx,rep_asInt hq hy] at key
  split at hk
  ·exact key _ _ (fun w'=>by rw [Sem.run_bind,run_guard_int,Result.andThen_ok]; simp [Go.binOp,Op.shift,Int.not_lt.2 hk.1]; rfl) rep_mkInt hk.2
  ·exact key _ _ (fun w'=>by rw [Sem.run_bind,run_guard_int,Result.andThen_ok]; simp [Go.binOp,Op.shift,Int.not_lt.2 hk.1]; rfl) rep_mkInt hk.2
  ·split at hk
   ·rename_i hkk
    subst hkk
    obtain ⟨v,s,h1,h2,h3⟩:=run_intBin (E:=E) (O:=O) (env:=env) (w:=w) op t k p q _ _ hk E.C
    exact key v s (fun w'=>by rw [Sem.run_bind,run_guard_int,Result.andThen_ok,h1]) h2 h3
   ·exact hk.elim
 ·split at hk
  ·split at hk
   ·rename_i hp
    exact key _ _ (run_ptrNil h.heap hp hx hy .eql (.inl rfl)) .bl hk
   ·split at hk
    ·rename_i Pb hb
     obtain ⟨b,h1,h2⟩:=run_slNil h.heap hb hx hy .eql (.inl rfl)
     exact key _ _ h2 .sb (hk b h1)
    ·split at hk
     ·rename_i b hb
      exact key _ _ (run_eqlS hb hx hy .eql (.inl rfl)) .sb hk
     ·exact hk.elim
  ·split at hk
   ·rename_i hp
    exact key _ _ (run_ptrNil h.heap hp hx hy .neq (.inr rfl)) .bl hk
   ·split at hk
    ·rename_i Pb hb
     obtain ⟨b,h1,h2⟩:=run_slNil h.heap hb hx hy .neq (.inr rfl)
     exact key _ _ h2 .sb (hk b h1)
    ·split at hk
     ·rename_i b hb
      exact key _ _ (run_eqlS hb hx hy .neq (.inr rfl)) .sb hk
     ·exact hk.elim
  ·exact hk.elim
end
end Go.Eng

/-! The engine's operations are right: built-in functions. Conditions: none. -/
namespace Go.Eng
open Go
variable {A:Nat→Type}
section
variable {E:Eng A} {O:Nat→Prop} {ts:List (SV A)} {sh:List (SO A)} {env:List Wit} {a:Act} {w:World} {o:Oper} {K:Pred A} {C:Enc A}
/-- What is read of a slice: so many cells at its address. -/
def Reads (w:World) (v:Value) (m:Nat) (vs:List Value):Prop:=
 (∃ ad c,v = .slice ad m c∧((ad=none∧m=0∧vs=[])∨∃ b o,ad=some ⟨b,o,none⟩∧∀ (j:Nat) u,vs[j]?=some u→w.cell? ⟨b,o+j,none⟩=some u)) ∨
 (vs=[]∧m=0∧∃ ad c,v = .slice ad 0 c)
theorem reads_of_ro {ad:Option Addr} {c m:Nat} {vs:List Value} (h:ROat O env w ad vs) (hm:vs=[]→m=0):Reads w (.slice ad m c) m vs:=by
 rcases h with h | ⟨b,o',had,_,_,hc⟩
 ·rw [hm h]
  exact .inr ⟨h,rfl,ad,c,rfl⟩
 ·exact .inl ⟨ad,c,rfl,.inr ⟨b,o',had,hc⟩⟩
theorem reads_of_own {e:TypeId} {size n:Nat} {v:Value} {vs:List Value} (h:w.ownsRow 0 e size v n vs):Reads w v n vs:=by
 rcases h.2 with ⟨h1,h2⟩ | ⟨g,cap,cur,h1,h3,h4,h5,h6,h7,h8⟩
 ·have h3:=h.1
  rw [h2] at h3
  simp at h3
  rw [h1,h2]
  exact .inr ⟨h3,rfl,none,0,rfl⟩
 ·subst h1
  exact .inl ⟨_,cap,rfl,.inr ⟨g,0,rfl,fun j u hu=>by rw [Nat.zero_add]; exact own_cell h j u hu⟩⟩
theorem ints_reads (hh:HR O env w C sh) {s:SV A} {v:Value} {k:IntKind} {k':Option IntKind} {ys:List Int} (h:intsOfS sh s=some (k',ys)) (hk:kindOk k' k=true) (hr:Rep O env w C s v) :
  Reads w v ys.length (ys.map (Value.int k)):=by
 have hkk:∀ k2,k'=some k2→k2=k:=by
  intro k2 e; subst e
  simp only [kindOk] at hk
  split at hk
  ·assumption
  ·cases hk
 unfold intsOfS at h
 split at h
 ·cases h
  obtain ⟨ad,c,hv,_,_,h3⟩:=hr.inv_rints
  have:=hkk _ rfl; subst this
  rw [hv]
  exact reads_of_ro h3 (fun e=>by simpa using e)
 ·split at h
  ·rename_i hi
   cases h
   have:=hkk _ rfl; subst this
   obtain ⟨u,hb,ho⟩:=hh.ivec hi
   rw [slAt_some hr.inv_vec hb]
   exact reads_of_own ho
  ·cases h
 ·rename_i i off n
  split at h
  ·rename_i hi
   split at h
   ·rename_i hrun
    cases h
    have:=hkk _ rfl; subst this
    obtain ⟨b,vs,hb,hc,hrl⟩:=hh.cells hi
    obtain ⟨c,hv,_,_⟩:=blkAt_some hr.inv_asl hb
    obtain ⟨hl,pre,post,h1,h2,_⟩:=hrl.part hrun
    rw [hv,← hl]
    refine .inl ⟨_,c,rfl,.inr ⟨b,off,rfl,fun j u hu=>?_⟩⟩
    rw [cell_of_cells hc,h1,List.getElem?_append_right (by omega),h2,Nat.add_sub_cancel_left,List.getElem?_append_left (List.getElem?_eq_some_iff.1 hu).1]
    exact hu
   ·cases h
  ·cases h
 ·cases h
  rw [hr.inv_val]
  exact .inr ⟨rfl,rfl,none,0,rfl⟩
 ·cases h
/-- An append to what the call owns. -/
theorem run_app {P:Program} {t ty e:TypeId} {i:TypeInfo} {z:Value} {size:Nat} (ht:P.underlying t=some (.slice e)) (hi:P.info? e=some i) (hz:i.zero=some z) (hsize:i.size=size) (hzs:z.cells.size=size) (hsz:0<size)
  {v:Value} {n:Nat} {xs:List Value} (hown:w.ownsRow 0 e size v n xs) {vx:Value} {m:Nat} {news:List Value} (hl:news.length=m*size) (hx:Reads w vx m news) (h1:∀ u∈news,u.oneCell'=true)
  (h63:n+m≤1152921504606846976) (hbytes:(n+m)*i.bytes≤140737488355328) :
  ∃ v' w',(Builtin.append_ #[t,t] ty #[v,vx]).run P w = .ok v' w'∧w'.ownsRow 0 e size v' (n+m) (xs++news)∧w.grownBy w' v.ownBlock∧(v'.ownBlock=v.ownBlock∨v'.ownBlock=some w.heap.size):=by
 have hm0:∀ ad c,vx = .slice ad 0 c→m=0→news=[]→∃ v' w',(Builtin.append_ #[t,t] ty #[v,vx]).run P w = .ok v' w'∧w'.ownsRow 0 e size v' (n+m) (xs++news)∧w.grownBy w' v.ownBlock∧(v'.ownBlock=v.ownBlock∨v'.ownBlock=some w.heap.size):=by
  intro ad c hv hm hn
  subst hm; subst hn; subst hv
  obtain ⟨ad2,c2,h2,h3,h4⟩:=own_len hown
  refine ⟨v,w,?_,by simpa using hown,⟨rfl,rfl,rfl,Nat.le_refl _,fun _ _ _=>rfl⟩,.inl rfl⟩
  subst h2
  simp only [Builtin.append_]
  cases ad<;>cases ad2<;>simp [run_underlying ht,sizeOf,typeInfo,hi,Builtin.lenOf,h3,Builtin.firstCells,loadCells,loadCellsFrom,storeCells]
 rcases hx with ⟨ad,c,hv,h2⟩ | ⟨h2,h3,ad,c,hv⟩
 ·rcases h2 with ⟨h3,h4,h5⟩ | ⟨b,o',h3,hc⟩
  ·exact hm0 ad c (by rw [hv,h4]) h4 h5
  ·subst hv; subst h3
   obtain ⟨v',w',h4,h5,h6,_,h7⟩:=run_append_own_at (P:=P) w 0 t ty e i z size i.bytes ht hi hz hsize rfl hzs hsz v n xs hown ⟨b,o',none⟩ m c news hl (fun j u hu=>by rw [Addr.add_lit]; exact hc j u hu) h1
    (by simp only [maxLen]; omega) hbytes (Nat.zero_le _)
   exact ⟨v',w',h4,h5,h6,h7⟩
 ·exact hm0 ad c hv h3 h2
theorem pure_one:∀ {s:SV A} {v:Value},oneCell ([]:List (SO A)) s=true→Rep O env w C s v→v.oneCell'=true:=by
 intro s v h1 h
 cases s
 case junk | undef | aptr | asl | rptr | vptr | agg | tup | rful=>simp [oneCell] at h1
 case ptr=>simp [oneCell,alive,aliveM,nth] at h1
 case vec=>simp [oneCell,alive,nth] at h1
 case int=>rw [h.inv_int]; rfl
 case lit=>rw [h.inv_lit]; rfl
 case err=>rcases h.inv_err with ⟨_,hv⟩ | ⟨_,hv⟩<;>rw [hv]<;>rfl
 case bl=>rw [h.inv_bl]; rfl
 case sb=>rw [h.inv_sb]; rfl
 case val u=>rw [h.inv_val]; cases u<;>first | rfl | simp [oneCell] at h1
 case rints=>obtain ⟨_,_,hv,_⟩:=h.inv_rints; rw [hv]; rfl
 case rseq=>obtain ⟨_,_,_,hv,_⟩:=h.inv_rseq; rw [hv]; rfl
 case iface=>obtain ⟨_,hv,_⟩:=h.inv_iface; rw [hv]; rfl
 case fn=>obtain ⟨_,_,hv,_⟩:=h.inv_fn; rw [hv]; rfl
theorem pure_cells:∀ {cs:SL A} {vs:List Value},storable ([]:List (SO A)) cs=true→RepL O env w C cs vs→∀ u∈vs,u.oneCell'=true
 | .nil,_,_,h=>by rw [h.inv_nil]; simp
 | .cell s r,_,hs,h=>by
  obtain ⟨u,us,rfl,h1,h2⟩:=h.inv_cell
  simp only [storable] at hs
  split at hs
  case isFalse=>cases hs
  rename_i hs1
  intro x hx
  rcases List.mem_cons.1 hx with e | hx
  ·subst e; exact pure_one hs1 h1
  ·exact pure_cells hs h2 x hx
 | .run k n xs r,_,hs,h=>by
  obtain ⟨us,hn,rfl,hr⟩:=h.inv_run
  simp only [storable] at hs
  intro x hx
  rcases List.mem_append.1 hx with hx | hx
  ·obtain ⟨y,_,rfl⟩:=List.mem_map.1 hx; rfl
  ·exact pure_cells hs hr x hx
/-- The rows of elements. -/
def Rows (O:Nat→Prop) (env:List Wit) (w:World) (C:Enc A) (t:Nat) (xs:List (A t)) (vs:List Value):Prop:=
 vs.length=xs.length*C.size t∧∀ (j:Nat) (x:A t),xs[j]?=some x→RepL O env w C (C.enc t x) ((vs.drop (j*C.size t)).take (C.size t))
theorem Rows.step {env':List Wit} {w':World} (hs:Step env w env' w') {t:Nat} {xs:List (A t)} {vs:List Value} (h:Rows O env w C t xs vs):Rows O env' w' C t xs vs:=
 ⟨h.1,fun j x hj=>(h.2 j x hj).step hs⟩
theorem Rows.append {t:Nat} {xs ys:List (A t)} {us vs:List Value} (h:Rows O env w C t xs us) (k:Rows O env w C t ys vs):Rows O env w C t (xs++ys) (us++vs):=by
 refine ⟨by simp [h.1,k.1,Nat.add_mul],fun j x hj=>?_⟩
 rcases Nat.lt_or_ge j xs.length with hl | hl
 ·rw [List.getElem?_append_left hl] at hj
  have h1:=h.2 j x hj
  have h2:j*C.size t+C.size t≤us.length:=by rw [h.1,← Nat.succ_mul]; exact Nat.mul_le_mul_right _ hl
  rw [List.drop_append_of_le_length (by omega),List.take_append_of_le_length (by simp; omega)]
  exact h1
 ·rw [List.getElem?_append_right hl] at hj
  have h1:=k.2 _ x hj
  rw [List.drop_append,List.drop_of_length_le (by rw [h.1]; exact Nat.mul_le_mul_right _ hl),List.nil_append,h.1,← Nat.sub_mul]
  exact h1
theorem Rows.one {t:Nat} {xs:List (A t)} {vs:List Value} (hC:∀ y,storable ([]:List (SO A)) (C.enc t y)=true) (hsz:0<C.size t) (h:Rows O env w C t xs vs):∀ u∈vs,u.oneCell'=true:=by
 intro u hu
 obtain ⟨p,hp,hpu⟩:=List.getElem_of_mem hu
 have hj:p / C.size t<xs.length:=by
  rw [Nat.div_lt_iff_lt_mul hsz,← h.1]; exact hp
 have hr:=h.2 _ _ (List.getElem?_eq_getElem hj)
 refine pure_cells (hC _) hr u ?_
 have:((vs.drop (p / C.size t*C.size t)).take (C.size t))[p%C.size t]?=some u:=by
  rw [List.getElem?_take,if_pos (Nat.mod_lt _ hsz),List.getElem?_drop,Nat.div_add_mod' p (C.size t),List.getElem?_eq_getElem hp,hpu]
 exact List.mem_of_getElem? this
theorem castL_eq {t u:Nat} {xs:List (A t)} {ys:List (A u)} (h:castL u xs=some ys):t=u∧HEq xs ys:=by
 unfold castL at h
 split at h
 ·rename_i e
  subst e
  cases h
  exact ⟨rfl,HEq.rfl⟩
 ·cases h
theorem seq_reads (hh:HR O env w C sh) {t:Nat} (hsz:0<C.size t) {s:SV A} {v:Value} {ys:List (A t)} (h:seqOfS t sh s=some ys) (hr:Rep O env w C s v):∃ vs,Reads w v ys.length vs∧Rows O env w C t ys vs:=by
 unfold seqOfS at h
 split at h
 ·obtain ⟨e,h2⟩:=castL_eq h
  subst e
  have h2:=(eq_of_heq h2).symm
  subst h2
  obtain ⟨ad,c,vs,hv,_,_,h3,h4,h5⟩:=hr.inv_rseq
  rw [hv]
  refine ⟨vs,reads_of_ro h4 (fun e=>?_),h3,h5⟩
  rw [e] at h3
  simp only [List.length_nil] at h3
  rcases Nat.eq_zero_or_pos ys.length with h6 | h6
  ·exact h6
  ·have:=Nat.mul_pos h6 hsz; omega
 ·split at h
  ·rename_i hi
   obtain ⟨e,h2⟩:=castL_eq h
   subst e
   have h2:=eq_of_heq h2
   subst h2
   obtain ⟨u,vs,hb,ho,hrows⟩:=hh.svec hi
   rw [slAt_some hr.inv_vec hb]
   exact ⟨vs,reads_of_own ho,ho.1,hrows⟩
  ·cases h
 ·cases h
  rw [hr.inv_val]
  exact ⟨[],.inr ⟨rfl,rfl,none,0,rfl⟩,by simp,fun j x hj=>by simp at hj⟩
 ·cases h
theorem callee_builtin {c:Call} {b:Builtin} (hc:c.callee = .builtin b) (ho:o.op = .call c) {v:Value} {w':World} {f:Array TypeId→TypeId→Array Value→Sem Value}
  (hb:∀ at_ ty cs args,Go.builtin b at_ ty cs args=(do pure (Next.value (← f at_ ty args)))) (hrun:(f c.argTypes o.type (c.args.map a.eval)).run E.P w = .ok v w'):(execOp a.eval o).run E.P w = .ok (.value v) w':=by
 simp only [execOp,ho,resolve,hc]
 simp [Go.invoke,hb,hrun]
theorem app_all {t ty e:TypeId} {z:SL A} (hd:desc E.P t = .slice e) (hz:tyZero (A:=A) E.P e=some z) (hzl:z.len=tsize E.P e) {size:Nat} (hs:tsize E.P e=size) (hsz:0<size)
  {v:Value} {n:Nat} {xs:List Value} (hown:w.ownsRow 0 e size v n xs) {vx:Value} {m:Nat} {news:List Value} (hl:news.length=m*size) (hx:Reads w vx m news) (h1:∀ u∈news,u.oneCell'=true)
  (h63:n+m≤1152921504606846976) (hbytes:(n+m)*tbytes E.P e≤140737488355328) :
  ∃ v' w',(Builtin.append_ #[t,t] ty #[v,vx]).run E.P w = .ok v' w'∧w'.ownsRow 0 e size v' (n+m) (xs++news)∧w.grownBy w' v.ownBlock∧(v'.ownBlock=v.ownBlock∨v'.ownBlock=some w.heap.size):=by
 obtain ⟨i,zv,hi,hiz,hr⟩:=tyZero_spec hz
 have hu:=under_of_desc hd (by simp)
 have his:i.size=size:=by simpa [tsize,hi] using hs
 have hb:tbytes E.P e=i.bytes:=by simp [tbytes,hi]
 have hzs:zv.cells.size=size:=by
  have:=(hr (fun _=>False) [] w (⟨fun _ _ => .nil,fun _=>0,fun _=>false⟩:Enc A)).length
  rw [hzl,hs] at this
  simpa using this
 rw [hb] at hbytes
 exact run_app hu hi hiz his hzs hsz hown hl hx h1 h63 hbytes
/-- What a vector becomes. -/
theorem vec_next (h:HR O env w C sh) {i:Nat} {v v':Value} {w':World} (hb:env[i]?=some (.sl v)) (hg:w.grownBy w' v.ownBlock) (hat:v'.ownBlock=v.ownBlock∨v'.ownBlock=some w.heap.size)
  (hlt:∀ b,v'.ownBlock=some b→b<w'.heap.size) (so:SO A) (hr:∀ (_:Step env w (env.set i .dead++[.sl v']) w'),ORep O (env.set i .dead++[.sl v']) w' C so (.sl v')) :
  HR O (env.set i .dead++[.sl v']) w' C (setNth sh i .dead++[so])∧Step env w (env.set i .dead++[.sl v']) w'∧Rep O (env.set i .dead++[.sl v']) w' C (.vec (cnt (setNth sh i .dead)):SV A) v':=by
 have hn:=h.next i v.ownBlock hg (fun k hk=>⟨_,hb,hk⟩) (.sl v') (fun b hb'=>by
  simp only [Wit.owns] at hb'
  rcases hat with e | e
  ·rw [e] at hb'; exact .inl ⟨_,hb,hb'⟩
  ·rw [e] at hb'; cases hb'; exact .inr (Nat.le_refl _)) (fun b hb'=>hlt b hb') so hr
 refine ⟨by rw [setNth_eq]; exact hn.1,hn.2,.vec ?_⟩
 rw [cnt_eq,setNth_eq,List.length_set,h.len]
 unfold slAt
 rw [List.getElem?_append_right (by simp)]
 simp
theorem vec_push (h:HR O env w C sh) {v':Value} {w':World} (hg:w.grownBy w' none) (hat:v'.ownBlock=none∨v'.ownBlock=some w.heap.size)
  (hlt:∀ b,v'.ownBlock=some b→b<w'.heap.size) (so:SO A) (hr:∀ (_:Step env w (env++[.sl v']) w'),ORep O (env++[.sl v']) w' C so (.sl v')) :
  HR O (env++[.sl v']) w' C (sh++[so])∧Step env w (env++[.sl v']) w'∧Rep O (env++[.sl v']) w' C (.vec (cnt sh):SV A) v':=by
 have hn:=h.push hg (.sl v') (fun b hb'=>by
  simp only [Wit.owns] at hb'
  rcases hat with e | e
  ·rw [e] at hb'; cases hb'
  ·rw [e] at hb'; cases hb'; exact Nat.le_refl _) (fun b hb'=>hlt b hb') so hr
 refine ⟨hn.1,hn.2,.vec ?_⟩
 rw [cnt_eq,h.len]
 simp [slAt]
theorem own_lt {e:TypeId} {size n:Nat} {v:Value} {vs:List Value} (h:w.ownsRow 0 e size v n vs):∀ b,v.ownBlock=some b→b<w.heap.size:=fun b hb=>(h.lt b hb).2
/-- An append to a slice that is full: a block of its own, or nothing at all. -/
theorem run_app_full {P:Program} {t ty e:TypeId} {i:TypeInfo} {z:Value} {size:Nat} (ht:P.underlying t=some (.slice e)) (hi:P.info? e=some i) (hz:i.zero=some z) (hsize:i.size=size) (hzs:z.cells.size=size) (hsz:0<size)
  {ad:Option Addr} {n:Nat} {xs:List Value} (hxl:xs.length=n*size) (hxs:Reads w (.slice ad n n) n xs) {vx:Value} {m:Nat} {news:List Value} (hl:news.length=m*size) (hx:Reads w vx m news)
  (h63:n+m≤1152921504606846976) (hbytes:(n+m)*i.bytes≤140737488355328) :
  (m=0∧(Builtin.append_ #[t,t] ty #[.slice ad n n,vx]).run P w = .ok (.slice ad n n) w) ∨
  ∃ v' w',(Builtin.append_ #[t,t] ty #[.slice ad n n,vx]).run P w = .ok v' w'∧w'.ownsRow 0 e size v' (n+m) (xs++news)∧w.grownBy w' none∧v'.ownBlock=some w.heap.size:=by
 subst hsize
 have hmax:n+m≤maxLen:=by simp only [maxLen]; omega
 have hm0:∀ ad2 c,vx = .slice ad2 0 c→m=0→news=[]→(Builtin.append_ #[t,t] ty #[.slice ad n n,vx]).run P w = .ok (.slice ad n n) w:=by
  intro ad2 c hv hm hn
  subst hm; subst hn; subst hv
  simp only [Builtin.append_]
  cases ad<;>cases ad2<;>simp [run_underlying ht,sizeOf,typeInfo,hi,Builtin.lenOf,Builtin.firstCells,loadCells,loadCellsFrom,storeCells]
 have grown:∀ (old:Nat),old<n+m →
   (w.drew.alloc (.cells (xs.toArray++news.toArray++Builtin.zeroCells z.cells (grownCap w (n+m) old e-(n+m))) e)).ownsRow 0 e i.size
    (.slice (some ⟨w.heap.size,0,none⟩) (n+m) (grownCap w (n+m) old e)) (n+m) (xs++news) ∧
   w.grownBy (w.drew.alloc (.cells (xs.toArray++news.toArray++Builtin.zeroCells z.cells (grownCap w (n+m) old e-(n+m))) e)) none:=by
  intro old ho
  have hlen:(xs++news).length=(n+m)*i.size:=by rw [List.length_append,hxl,hl,Nat.add_mul]
  have hge:=grownCap_ge w (n+m) old e
  have hcm:grownCap w (n+m) old e≤maxLen:=grownCap_le_maxLen w (n+m) old e hmax
  refine ⟨⟨hlen,.inr ⟨w.heap.size,_,_,rfl,Nat.zero_le _,heap_alloc_new w.drew _,hge,hcm,?_,?_⟩⟩,⟨rfl,rfl,rfl,by simp,fun k hk _=>heap_alloc_old w.drew _ hk⟩⟩
  ·simp only [Array.size_append,List.size_toArray,size_zeroCells,hzs,hxl,hl,← Nat.add_mul]
   congr 1
   omega
  ·simp only [Array.toList_append,List.append_assoc]
   rw [← List.append_assoc,← hlen]
   exact List.take_left
 have fin:∀ b o' c,vx = .slice (some ⟨b,o',none⟩) m c→(∀ (j:Nat) u,news[j]?=some u→w.cell? ⟨b,o'+j,none⟩=some u)→m≠0 →
   ∃ v' w',(Builtin.append_ #[t,t] ty #[.slice ad n n,vx]).run P w = .ok v' w'∧w'.ownsRow 0 e i.size v' (n+m) (xs++news)∧w.grownBy w' none∧v'.ownBlock=some w.heap.size:=by
  intro b o' c hv hc hm
  subst hv
  have hc':∀ (j:Nat) u,news[j]?=some u→w.cell? ((⟨b,o',none⟩:Addr).add j)=some u:=fun j u hu=>by rw [Addr.add_lit]; exact hc j u hu
  have hgr:=grown n (by omega)
  have h63':n+m≤9223372036854775807:=by omega
  cases ad with
  | none=>
   have hn:n=0∧xs=[]:=by
    rcases hxs with ⟨ad2,c2,h1,h2⟩ | ⟨h1,h2,_⟩
    ·rcases h2 with ⟨_,h3,h4⟩ | ⟨b2,o2,h3,_⟩
     ·exact ⟨h3,h4⟩
     ·subst h3; cases h1
    ·exact ⟨h2,h1⟩
   obtain ⟨hn,hxe⟩:=hn
   subst hn; subst hxe
   have hr:=run_append_nil (P:=P) w t ty e i z ht hi hz ⟨b,o',none⟩ m c news hl hc' (by omega) (by omega) (by have hb:=hbytes; simp only [Nat.zero_add] at hb; omega)
   simp only [Nat.zero_add,List.nil_append,Array.empty_append] at hgr ⊢
   exact ⟨_,_,hr,hgr.1,hgr.2,rfl⟩
  | some a=>
   have holds:∀ (j:Nat) u,xs[j]?=some u→w.cell? (a.add j)=some u:=by
    rcases hxs with ⟨ad2,c2,h1,h2⟩ | ⟨h1,_⟩
    ·rcases h2 with ⟨_,_,h4⟩ | ⟨b2,o2,h3,h4⟩
     ·subst h4; intro j u hu; simp at hu
     ·subst h3
      cases h1
      intro j u hu
      rw [Addr.add_lit]
      exact h4 j u hu
    ·subst h1; intro j u hu; simp at hu
   have hr:=run_append_grow (P:=P) w t ty e i z ht hi hz a n n xs hxl holds ⟨b,o',none⟩ m c news hl hc' (by omega) (by omega) (growslice_fits (by omega) hbytes)
   exact ⟨_,_,hr,hgr.1,hgr.2,rfl⟩
 by_cases hm:m=0
 ·have hn:news=[]:=List.eq_nil_of_length_eq_zero (by rw [hl,hm,Nat.zero_mul])
  refine .inl ⟨hm,?_⟩
  rcases hx with ⟨ad2,c,hv,_⟩ | ⟨_,_,ad2,c,hv⟩
  ·exact hm0 ad2 c (by rw [hv,hm]) hm hn
  ·exact hm0 ad2 c hv hm hn
 ·refine .inr ?_
  rcases hx with ⟨ad2,c,hv,h2⟩ | ⟨_,h3,_⟩
  ·rcases h2 with ⟨_,h4,_⟩ | ⟨b,o',h3,hc⟩
   ·exact (hm h4).elim
   ·subst h3
    exact fin b o' c hv hc hm
  ·exact (hm h3).elim
/-- What an append comes to. -/
theorem run_appendS {t:TypeId} {x y:Operand} (ty:TypeId) (h:Rel E O ts sh env a w) (hk:appendS E t (evr E ts sh x) (evr E ts sh y) sh K) :
  ∃ v w' s sh' env',(Builtin.append_ #[t,t] ty #[a.eval x,a.eval y]).run E.P w = .ok v w'∧Rep O env' w' E.C s v∧HR O env' w' E.C sh'∧Step env w env' w'∧w.grownBy w' (a.eval x).ownBlock∧K s sh':=by
 have hx:=evr_rep h x
 have hy:=evr_rep h y
 generalize evr E ts sh x=sx at hx hk
 generalize evr E ts sh y=sy at hy hk
 generalize a.eval x=vx at hx ⊢
 generalize a.eval y=vy at hy ⊢
 unfold appendS at hk
 split at hk
 case h_2=>exact hk.elim
 rename_i e hd
 split at hk
 ·exact hk.elim
 ·rename_i z hz
  split at hk
  case isFalse=>exact hk.elim
  rename_i hzl
  split at hk
  ·rename_i k hk0
   split at hk
   case isFalse=>exact hk.elim
   rename_i hs1
   split at hk
   ·rename_i k' ys hys
    split at hk
    case isFalse=>exact hk.elim
    rename_i hkk
    have hrd:=ints_reads h.heap hys hkk hy
    split at hk
    ·rename_i i
     split at hk
     ·rename_i e' k2 xs hi
      split at hk
      ·rename_i he
       split at hk
       ·rename_i hk2
        subst he; subst hk2
        obtain ⟨hb1,hb2,hK⟩:=hk
        obtain ⟨v,hb,hown⟩:=h.heap.ivec hi
        have hv:=slAt_some hx.inv_vec hb
        subst hv
        obtain ⟨v',w',hrun,ho2,hg,hat2⟩:=app_all (ty:=ty) hd hz hzl hs1 (by omega) hown (by simp) hrd (by simp [Value.oneCell']) hb2 hb1
        obtain ⟨h3,h4,h5⟩:=vec_next h.heap hb hg hat2 (own_lt ho2) (.ivec e' k2 (xs++ys)) (fun _=>by
         simp only [ORep,List.length_append,List.map_append]; exact ho2)
        rw [snoc_eq] at hK
        exact ⟨_,_,_,_,_,hrun,h5,h3,h4,hg,hK⟩
       ·exact hk.elim
      ·exact hk.elim
     ·exact hk.elim
    ·obtain ⟨hb1,hb2,hK⟩:=hk
     have hv:=hx.inv_val
     subst hv
     obtain ⟨v',w',hrun,ho2,hg,hat2⟩:=app_all (ty:=ty) hd hz hzl hs1 (by omega) (World.ownsRow_nil w 0 e 1) (by simp) hrd (by simp [Value.oneCell']) (by omega) (by simpa using hb1)
     obtain ⟨h3,h4,h5⟩:=vec_push h.heap hg hat2 (own_lt ho2) (.ivec e k ys) (fun _=>by
      simp only [ORep]; simpa using ho2)
     rw [snoc_eq] at hK
     exact ⟨_,_,_,_,_,hrun,h5,h3,h4,hg,hK⟩
    ·exact hk.elim
   ·exact hk.elim
  ·split at hk
   case isFalse=>exact hk.elim
   rename_i hsz
   split at hk
   ·exact hk.elim
   ·rename_i hne
    split at hk
    ·rename_i ys hys
     have hpos:0<E.C.size e:=by omega
     obtain ⟨news,hrd,hrows⟩:=seq_reads h.heap hpos hys hy
     have hone:=hrows.one (E.encOk e) hpos
     split at hk
     ·rename_i i
      split at hk
      ·rename_i e' xs' hi
       split at hk
       ·rename_i xs hxs
        obtain ⟨he,h2⟩:=castL_eq hxs
        subst he
        have h2:=eq_of_heq h2
        subst h2
        obtain ⟨hb1,hb2,hK⟩:=hk
        obtain ⟨v,us,hb,hown,hus⟩:=h.heap.svec hi
        have hv:=slAt_some hx.inv_vec hb
        subst hv
        obtain ⟨v',w',hrun,ho2,hg,hat2⟩:=app_all (ty:=ty) hd hz hzl hsz hpos hown hrows.1 hrd hone hb2 hb1
        obtain ⟨h3,h4,h5⟩:=vec_next h.heap hb hg hat2 (own_lt ho2) (.svec e' (xs'++ys)) (fun hs=>by
         refine ⟨us++news,by rw [List.length_append]; exact ho2,?_⟩
         exact ((Rows.append ⟨hown.1,hus⟩ hrows).step hs).2)
        rw [snoc_eq] at hK
        exact ⟨_,_,_,_,_,hrun,h5,h3,h4,hg,hK⟩
       ·exact hk.elim
      ·exact hk.elim
     ·obtain ⟨hb1,hb2,hK⟩:=hk
      have hv:=hx.inv_val
      subst hv
      obtain ⟨v',w',hrun,ho2,hg,hat2⟩:=app_all (ty:=ty) hd hz hzl hsz hpos (World.ownsRow_nil w 0 e _) hrows.1 hrd hone (by omega) (by simpa using hb1)
      obtain ⟨h3,h4,h5⟩:=vec_push h.heap hg hat2 (own_lt ho2) (.svec e ys) (fun hs=>by
       refine ⟨news,by simpa using ho2,(hrows.step hs).2⟩)
      rw [snoc_eq] at hK
      exact ⟨_,_,_,_,_,hrun,h5,h3,h4,hg,hK⟩
     ·rename_i u xs'
      split at hk
      ·rename_i xs hxs
       obtain ⟨he,h2⟩:=castL_eq hxs
       subst he
       have h2:=eq_of_heq h2
       subst h2
       obtain ⟨hb1,hb2,hK⟩:=hk
       obtain ⟨ad,us,hv,hm1,hul,hro,hus⟩:=hx.inv_rful
       subst hv
       have hrx:Reads w (.slice ad xs'.length xs'.length) xs'.length us:=reads_of_ro hro (fun e2=>by
        rw [e2] at hul
        simp only [List.length_nil] at hul
        rcases Nat.eq_zero_or_pos xs'.length with h6 | h6
        ·exact h6
        ·have:=Nat.mul_pos h6 hpos; omega)
       obtain ⟨i,zv,hi,hiz,hr⟩:=tyZero_spec hz
       have hu:=under_of_desc hd (by simp)
       have his:i.size=E.C.size u:=by simpa [tsize,hi] using hsz
       have hzs:zv.cells.size=E.C.size u:=by
        have:=(hr (fun _=>False) [] w (⟨fun _ _ => .nil,fun _=>0,fun _=>false⟩:Enc A)).length
        rw [hzl,hsz] at this
        simpa using this
       have hbb:tbytes E.P u=i.bytes:=by simp [tbytes,hi]
       rw [hbb] at hb1
       rw [snoc_eq] at hK
       rcases run_app_full (ty:=ty) hu hi hiz his hzs hpos hul hrx hrows.1 hrd hb2 hb1 with ⟨hm0,hrun⟩ | ⟨v',w',hrun,ho2,hg,hat2⟩
       ·have hy0:ys=[]:=List.eq_nil_of_length_eq_zero hm0
        subst hy0
        rw [List.append_nil] at hK
        have hg0:w.grownBy w none:=⟨rfl,rfl,rfl,Nat.le_refl _,fun _ _ _=>rfl⟩
        have hrep:Rep O env w E.C (.rseq u xs') (.slice ad xs'.length xs'.length) := .rseq ad _ us (Nat.le_refl _) hm1 hul hro hus
        have hn:=h.heap.push hg0 (.ro (.slice ad xs'.length xs'.length)) (fun b hb'=>by cases hb') (fun b hb'=>by cases hb') (.fr (.rseq u xs')) (fun hs=>by
         simp only [ORep]; exact hrep.step hs)
        exact ⟨_,_,_,_,_,hrun,hrep.step hn.2,hn.1,hn.2,⟨rfl,rfl,rfl,Nat.le_refl _,fun _ _ _=>rfl⟩,hK⟩
       ·have hlt:=own_lt ho2
        obtain ⟨h3,h4,_⟩:=vec_push h.heap hg (.inr hat2) hlt (.svec u (xs'++ys)) (fun hs=>by
         refine ⟨us++news,by rw [List.length_append]; exact ho2,?_⟩
         exact ((Rows.append ⟨hul,hus⟩ hrows).step hs).2)
        obtain ⟨u2,h5,h6,h7,h8⟩:=h3.freezeS (i:=sh.length) (e:=u) (xs:=xs'++ys) (by rw [nth_eq]; simp)
        have hl:=h.heap.len
        rw [List.getElem?_append_right (by omega)] at h5
        have e3:u2=v':=by
         rw [hl,Nat.sub_self] at h5
         simpa using h5.symm
        subst e3
        refine ⟨_,_,_,_,_,hrun,h8,h6,h4.trans h7,⟨hg.os,hg.tape,hg.output,hg.size,fun k hk1 _=>hg.block k hk1 (by simp)⟩,?_⟩
        rw [setNth_eq,List.set_append_right _ _ (Nat.le_refl _),Nat.sub_self]
        exact hK
      ·exact hk.elim
     ·exact hk.elim
    ·exact hk.elim
theorem op_append {c:Call} {t:TypeId} {x y:Operand} (ho:o.op = .call c) (hc:c.callee = .builtin .append) (hat:c.argTypes=#[t,t]) (har:c.args=#[x,y]) (h:Rel E O ts sh env a w)
  (hk:appendS E t (evr E ts sh x) (evr E ts sh y) sh K):OpOK E O o sh env a w K:=by
 obtain ⟨v,w',s,sh',env',hrun,hr,hh,hs,_,hK⟩:=run_appendS o.type h hk
 exact opOK_of_run (callee_builtin hc ho (f:=Builtin.append_) (fun _ _ _ _=>rfl) (by rw [hat,har]; simp only [List.map_toArray,List.map_cons,List.map_nil]; exact hrun)) hr hh hs (fun hq=>by simp [quietOp,ho,hc] at hq) hK
end
end Go.Eng
