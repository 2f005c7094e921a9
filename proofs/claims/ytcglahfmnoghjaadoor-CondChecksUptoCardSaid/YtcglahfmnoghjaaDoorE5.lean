/- The engine's operations are right: arithmetic, slots, new variables. Conditions: none. -/
import Derived.Test.YtcglahfmnoghjaaDoorE4
namespace Go.Eng
open Go
variable {A : Nat → Type}

theorem under_of_desc {P : Program} {t : TypeId} {d : TypeDesc} (h : desc P t = d) (hd : d ≠ .invalid) : P.underlying t = some d := by
  unfold desc at h
  split at h
  · rename_i e he; rw [he, h]
  · exact absurd h.symm hd

theorem info_of_tsize {P : Program} {t : TypeId} {n : Nat} (h : tsize P t = n) (hn : n ≠ 0) : ∃ i, P.info? t = some i ∧ i.size = n := by
  unfold tsize at h
  split at h
  · rename_i i hi; exact ⟨i, hi, h⟩
  · exact absurd h.symm hn

section
variable {O : Nat → Prop} {env : List Wit} {w : World} {C : Enc A} {v : Value}
theorem Rep.inv_val {u : Value} (h : Rep O env w C (.val u : SV A) v) : v = u := by cases h; rfl
theorem Rep.inv_undef (h : Rep O env w C (.undef : SV A) v) : v = Go.undef := by cases h; rfl
theorem Rep.inv_int {k : IntKind} {n : Int} (h : Rep O env w C (.int k n : SV A) v) : v = .int k n := by cases h; rfl
theorem Rep.inv_lit {k : IntKind} {n : Int} (h : Rep O env w C (.lit k n : SV A) v) : v = .int k n := by cases h; rfl
theorem Rep.inv_bl {b : Bool} (h : Rep O env w C (.bl b : SV A) v) : v = .bool b := by cases h; rfl
theorem Rep.inv_sb {i : Nat} {b : Bool} (h : Rep O env w C (.sb i b : SV A) v) : v = .bool b := by cases h; rfl
theorem Rep.inv_ptr {i off : Nat} (h : Rep O env w C (.ptr i off : SV A) v) : blkAt env i fun b => v = .pointer (some ⟨b, off, none⟩) := by cases h; assumption
theorem Rep.inv_aptr {i off n j : Nat} (h : Rep O env w C (.aptr i off n j : SV A) v) : blkAt env i fun b => v = .pointer (some ⟨b, off + j, none⟩) ∧ j < n := by cases h; assumption
theorem Rep.inv_asl {i off n : Nat} (h : Rep O env w C (.asl i off n : SV A) v) : blkAt env i fun b => ∃ c, v = .slice (some ⟨b, off, none⟩) n c ∧ n ≤ c ∧ c ≤ maxLen := by cases h; assumption
theorem Rep.inv_vec {i : Nat} (h : Rep O env w C (.vec i : SV A) v) : slAt env i fun u => v = u := by cases h; assumption
theorem Rep.inv_vptr {i j size off : Nat} (h : Rep O env w C (.vptr i j size off : SV A) v) : slAt env i fun u => ∃ b n c, u = .slice (some ⟨b, 0, none⟩) n c ∧ v = .pointer (some ⟨b, j * size + off, none⟩) := by cases h; assumption
theorem Rep.inv_rints {k : IntKind} {xs : List Int} (h : Rep O env w C (.rints k xs : SV A) v) : ∃ (x : Option Addr) (c : Nat), v = .slice x xs.length c ∧ xs.length ≤ c ∧ c ≤ maxLen ∧ ROat O env w x (xs.map (Value.int k)) := by
  cases h; exact ⟨_, _, rfl, ‹_›, ‹_›, ‹_›⟩
theorem Rep.inv_rseq {t : Nat} {xs : List (A t)} (h : Rep O env w C (.rseq t xs : SV A) v) : ∃ (x : Option Addr) (c : Nat) (vs : List Value), v = .slice x xs.length c ∧ xs.length ≤ c ∧ c ≤ maxLen ∧ vs.length = xs.length * C.size t ∧ ROat O env w x vs ∧
    ∀ (j : Nat) (x : A t), xs[j]? = some x → RepL O env w C (C.enc t x) ((vs.drop (j * C.size t)).take (C.size t)) := by
  cases h; exact ⟨_, _, _, rfl, ‹_›, ‹_›, ‹_›, ‹_›, ‹_›⟩
theorem Rep.inv_rptr {cs : SL A} {off : Nat} (h : Rep O env w C (.rptr cs off : SV A) v) : ∃ (b o : Nat) (vs : List Value), v = .pointer (some ⟨b, o + off, none⟩) ∧ ¬ O b ∧ ¬ owned env b ∧ b < w.heap.size ∧
    (∀ (j : Nat) u, vs[j]? = some u → w.cell? ⟨b, o + j, none⟩ = some u) ∧ RepL O env w C cs vs := by
  cases h; exact ⟨_, _, _, rfl, ‹_›, ‹_›, ‹_›, ‹_›, ‹_›⟩
theorem Rep.inv_iface {t : TypeId} {s : SV A} (h : Rep O env w C (.iface t s : SV A) v) : ∃ u, v = .iface t u ∧ Rep O env w C s u := by
  cases h; exact ⟨_, rfl, ‹_›⟩
theorem Rep.inv_err {t : TypeId} {n : Int} (h : Rep O env w C (.err t n : SV A) v) : n = 0 ∧ v = .nilIface ∨ n ≠ 0 ∧ v = .iface t (.int .i64 n) := by cases h; assumption
theorem Rep.inv_fn {f : Fn} {x y : SL A} (h : Rep O env w C (.fn f x y : SV A) v) : ∃ us vs : List Value, v = .func f us.toArray vs.toArray ∧ RepL O env w C x us ∧ RepL O env w C y vs := by
  cases h; exact ⟨_, _, rfl, ‹_›, ‹_›⟩
theorem Rep.inv_agg {x : SL A} (h : Rep O env w C (.agg x : SV A) v) : ∃ us : List Value, v = .agg us.toArray ∧ RepL O env w C x us := by
  cases h; exact ⟨_, rfl, ‹_›⟩
theorem Rep.inv_tup {x : SL A} (h : Rep O env w C (.tup x : SV A) v) : ∃ us : List Value, v = .tuple us.toArray ∧ RepL O env w C x us := by
  cases h; exact ⟨_, rfl, ‹_›⟩
theorem RepL.inv_nil {vs : List Value} (h : RepL O env w C (.nil : SL A) vs) : vs = [] := by cases h; rfl
theorem RepL.inv_cell {s : SV A} {r : SL A} {vs : List Value} (h : RepL O env w C (.cell s r) vs) : ∃ u us, vs = u :: us ∧ Rep O env w C s u ∧ RepL O env w C r us := by
  cases h; exact ⟨_, _, rfl, ‹_›, ‹_›⟩
theorem RepL.inv_run {k : IntKind} {n : Nat} {xs : List Int} {r : SL A} {vs : List Value} (h : RepL O env w C (.run k n xs r) vs) : ∃ us, xs.length = n ∧ vs = xs.map (Value.int k) ++ us ∧ RepL O env w C r us := by
  cases h; exact ⟨_, ‹_›, rfl, ‹_›⟩

theorem rep_asBool {s : SV A} {b : Bool} (hb : asBool s = some b) (h : Rep O env w C s v) : v = .bool b := by
  cases h <;> simp [asBool] at hb <;> rw [hb]
theorem rep_asInt {s : SV A} {k : IntKind} {n : Int} {l : Bool} (hb : asInt s = some (k, n, l)) (h : Rep O env w C s v) : v = .int k n := by
  cases h <;> simp [asInt] at hb <;> rw [hb.1, hb.2.1]
theorem rep_mkInt {l : Bool} {k : IntKind} {n : Int} : Rep O env w C (mkInt l k n : SV A) (.int k n) := by
  cases l <;> constructor
theorem rep_mkBool {l b : Bool} : Rep O env w C (mkBool l b : SV A) (.bool b) := by
  cases l <;> constructor
end

theorem wrap_id {x : Int} (h : inI64 x) : IntKind.i64.wrap x = x := by
  unfold inI64 at h
  simp [IntKind.wrap, IntKind.bits, IntKind.signed]
  omega

section
variable {E : Eng A} {O : Nat → Prop} {ts : List (SV A)} {sh : List (SO A)} {env : List Wit} {a : Act} {w : World} {o : Oper} {K : Pred A}

theorem op_move {x : Operand} (ho : o.op = .move x) (h : Rel E O ts sh env a w) (hk : K (ev E ts x) sh) : OpY E O o sh env a w K :=
  opY_same (v := a.eval x) (fun w' => by simp [execOp, ho]) (ev_rep h x) hk

theorem op_assign {x : Operand} (ho : o.op = .assign x) (h : Rel E O ts sh env a w) (hk : K (ev E ts x) sh) : OpY E O o sh env a w K :=
  opY_same (v := a.eval x) (fun w' => by simp [execOp, ho]) (ev_rep h x) hk

theorem op_pick {c x y : Operand} (ho : o.op = .pick c x y) (h : Rel E O ts sh env a w) (hk : stepOp E (.pick c x y) ts sh K) : OpY E O o sh env a w K := by
  simp only [stepOp] at hk
  have hc := evr_rep h c
  split at hk
  · rename_i e; rw [e] at hc
    have hv := hc.inv_bl
    exact opY_same (v := a.eval x) (fun w' => by simp [execOp, ho, hv, Go.asBool]) (evr_rep h x) hk
  · rename_i e; rw [e] at hc
    have hv := hc.inv_bl
    exact opY_same (v := a.eval y) (fun w' => by simp [execOp, ho, hv, Go.asBool]) (evr_rep h y) hk
  · rename_i i b e; rw [e] at hc
    have hv := hc.inv_sb
    split at hk
    · rename_i p q hp hq
      have h1 := rep_asBool hp (evr_rep h x)
      have h2 := rep_asBool hq (evr_rep h y)
      refine opY_same (v := .bool (if b then p else q)) (fun w' => ?_) .sb hk
      cases b <;> simp [execOp, ho, hv, Go.asBool, h1, h2]
    · exact hk.elim
  · exact hk.elim

/-- A binary operation on integers. -/
theorem run_intBin (op : BinOp) (t : TypeId) (k : IntKind) (x y : Int) (l : Bool) (K' : SV A → Prop) (hk : intBin op k x y l K') (C : Enc A) :
    ∃ v s, (∀ w', (Go.binOp op t (.int k x) (.int k y)).run E.P w' = .ok v w') ∧ Rep O env w C s v ∧ K' s := by
  cases op <;> simp only [intBin] at hk
  case add =>
    split at hk
    · exact ⟨_, _, fun _ => by simp [Go.binOp, Op.intArith, wrap_id hk.1], .int, hk.2⟩
    · exact ⟨_, _, fun _ => by simp [Go.binOp, Op.intArith, wr], rep_mkInt, hk⟩
  case sub =>
    split at hk
    · exact ⟨_, _, fun _ => by simp [Go.binOp, Op.intArith, wrap_id hk.1], .int, hk.2⟩
    · exact ⟨_, _, fun _ => by simp [Go.binOp, Op.intArith, wr], rep_mkInt, hk⟩
  case mul =>
    split at hk
    · exact ⟨_, _, fun _ => by simp [Go.binOp, Op.intArith, wrap_id hk.1], .int, hk.2⟩
    · exact ⟨_, _, fun _ => by simp [Go.binOp, Op.intArith, wr], rep_mkInt, hk⟩
  case quo => exact ⟨_, _, fun _ => by simp [Go.binOp, Op.intDiv, wr, hk.1], rep_mkInt, hk.2⟩
  case rem => exact ⟨_, _, fun _ => by simp [Go.binOp, Op.intDiv, hk.1], rep_mkInt, hk.2⟩
  case and => exact ⟨_, _, fun _ => by simp [Go.binOp, Op.intBits, bitop], rep_mkInt, hk⟩
  case or => exact ⟨_, _, fun _ => by simp [Go.binOp, Op.intBits, bitop], rep_mkInt, hk⟩
  case xor => exact ⟨_, _, fun _ => by simp [Go.binOp, Op.intBits, bitop], rep_mkInt, hk⟩
  case andNot => exact ⟨_, _, fun _ => by simp [Go.binOp, Op.intBits, bitop], rep_mkInt, hk⟩
  case eql => exact ⟨_, _, fun _ => by simp [Go.binOp, Op.intCmp], rep_mkBool, hk⟩
  case neq => exact ⟨_, _, fun _ => by simp [Go.binOp, Op.intCmp], rep_mkBool, hk⟩
  case lss => exact ⟨_, _, fun _ => by simp [Go.binOp, Op.intCmp], rep_mkBool, hk⟩
  case leq => exact ⟨_, _, fun _ => by simp [Go.binOp, Op.intCmp], rep_mkBool, hk⟩
  case gtr => exact ⟨_, _, fun _ => by simp [Go.binOp, Op.intCmp], rep_mkBool, hk⟩
  case geq => exact ⟨_, _, fun _ => by simp [Go.binOp, Op.intCmp], rep_mkBool, hk⟩

theorem op_unOp {op : UnOp} {t : TypeId} {x : Operand} (ho : o.op = .unOp op t x) (h : Rel E O ts sh env a w) (hk : unS op (evr E ts sh x) fun v => K v sh) : OpY E O o sh env a w K := by
  have hx := evr_rep h x
  unfold unS at hk
  split at hk
  · rename_i e; rw [e] at hx
    exact opY_same (v := _) (fun w' => by simp [execOp, ho, hx.inv_bl, Op.unary]) .bl hk
  · rename_i e; rw [e] at hx
    exact opY_same (v := _) (fun w' => by simp [execOp, ho, hx.inv_sb, Op.unary]) .sb hk
  · rename_i e; rw [e] at hx
    exact opY_same (v := _) (fun w' => by simp [execOp, ho, hx.inv_lit, Op.unary, Op.intArith]; rfl) (by simp only [wr]; simp; exact .lit) hk
  · rename_i e; rw [e] at hx
    have hw := wrap_id hk.1
    refine opY_same (v := .int .i64 (0 - _)) (fun w' => by simp only [execOp, ho, hx.inv_int, Op.unary, Op.intArith, hw]; simp) .int hk.2
  · rename_i e; rw [e] at hx
    exact opY_same (v := _) (fun w' => by simp [execOp, ho, hx.inv_int, Op.unary, Op.intArith]; rfl) (by simp only [wr]; simp; exact .int) hk
  · rename_i e; rw [e] at hx
    exact opY_same (v := _) (fun w' => by simp only [execOp, ho, hx.inv_int, Op.unary, Op.intBits]; simp; rfl) .int hk
  · rename_i e; rw [e] at hx
    exact opY_same (v := _) (fun w' => by simp only [execOp, ho, hx.inv_lit, Op.unary, Op.intBits]; simp; rfl) .lit hk
  · exact hk.elim

theorem op_convert {s d : TypeId} {x : Operand} (ho : o.op = .convert s d x) (h : Rel E O ts sh env a w) (hk : convS E s d (evr E ts sh x) sh fun v => K v sh) : OpY E O o sh env a w K := by
  unfold convS at hk
  split at hk
  · rename_i k1 k2 k n l e1 e2 e3
    have h1 := under_of_desc e1 (by simp)
    have h2 := under_of_desc e2 (by simp)
    have hv := rep_asInt e3 (evr_rep h x)
    exact opY_same (v := .int k2 (k2.wrap n)) (fun w' => by simp [execOp, ho, hv, Go.convert, run_underlying h1, run_underlying h2, Conv.intToInt]) rep_mkInt hk
  · exact hk.elim

theorem op_makeInterface {t : TypeId} {x : Operand} (ho : o.op = .makeInterface t x) (h : Rel E O ts sh env a w) (hk : stepOp E (.makeInterface t x) ts sh K) : OpY E O o sh env a w K := by
  simp only [stepOp] at hk
  split at hk
  · rename_i k e1
    have h1 := under_of_desc e1 (by simp)
    exact opY_same (v := .iface t (a.eval x)) (fun w' => by simp [execOp, ho, Instr.makeInterface, run_underlying h1]) (.iface (evr_rep h x)) hk
  · exact hk.elim

theorem rep_mkL {l : List Operand} (h : Rel E O ts sh env a w) : RepL O env w E.C (mkL (l.map (evr E ts sh))) (l.map a.eval) := by
  induction l with
  | nil => exact .nil
  | cons x l ih => exact .cell (evr_rep h x) ih

theorem op_makeFunc {f : Fn} {x y : Array Operand} (ho : o.op = .makeFunc f x y) (h : Rel E O ts sh env a w) (hk : stepOp E (.makeFunc f x y) ts sh K) : OpY E O o sh env a w K := by
  simp only [stepOp] at hk
  have hr := Rep.fn (O := O) (env := env) (w := w) (C := E.C) (f := f) _ _ (rep_mkL h (l := x.toList)) (rep_mkL h (l := y.toList))
  refine opY_same (v := .func f (x.map a.eval) (y.map a.eval)) (fun w' => by simp [execOp, ho, Instr.makeFunc]) ?_ hk
  have e1 : (x.toList.map a.eval).toArray = x.map a.eval := by rw [← Array.toList_map]
  have e2 : (y.toList.map a.eval).toArray = y.map a.eval := by rw [← Array.toList_map]
  rw [e1, e2] at hr
  exact hr

end
end Go.Eng
