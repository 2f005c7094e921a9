/- The engine's operations are right: new variables and what is written out. Conditions: none. -/
import Derived.Test.YtcglahfmnoghjaaDoorE9
namespace Go.Eng
open Go
variable {A : Nat → Type}

theorem run_mapM_list {P : Program} {w : World} {α β : Type} (f : α → Sem β) (g : α → β) : ∀ (l : List α), (∀ x ∈ l, (f x).run P w = .ok (g x) w) → (l.mapM f).run P w = .ok (l.map g) w
  | [], _ => by simp
  | x :: l, h => by
    have ih := run_mapM_list (P := P) (w := w) f g l (fun y hy => h y (List.mem_cons_of_mem _ hy))
    simp [List.mapM_cons, h x (List.mem_cons_self), ih]

theorem run_mapM_array {P : Program} {w : World} {α β : Type} (f : α → Sem β) (g : α → β) (l : Array α) (h : ∀ x ∈ l.toList, (f x).run P w = .ok (g x) w) : (l.mapM f).run P w = .ok (l.map g) w := by
  rw [Array.mapM_eq_mapM_toList, Sem.run_map, run_mapM_list f g l.toList h]
  simp only [Result.andThen_ok]
  rw [← Array.toList_map, Array.toArray_toList]

/-- Cells laid over others, one by one. -/
theorem foldl_put' : ∀ (vs pre old post : List Value) (o k : Nat) (cs : Array Value), cs.toList = pre ++ (old ++ post) → pre.length = o + k → old.length = vs.length →
    ((vs.zipIdx k).foldl (fun cs (x : Value × Nat) => cs.setIfInBounds (o + x.2) x.1) cs).toList = pre ++ (vs ++ post)
  | [], pre, old, post, o, k, cs, h, _, h2 => by
    have : old = [] := List.eq_nil_of_length_eq_zero h2
    simp [h, this]
  | v :: vs, pre, [], post, o, k, cs, h, _, h2 => by simp at h2
  | v :: vs, pre, x :: old, post, o, k, cs, h, h1, h2 => by
    simp only [List.zipIdx_cons, List.foldl_cons]
    have ih := foldl_put' vs (pre ++ [v]) old post o (k + 1) (cs.setIfInBounds (o + k) v) (by
      simp only [Array.toList_setIfInBounds, h]
      rw [← h1, List.set_append, if_neg (by omega), Nat.sub_self]
      simp) (by simp; omega) (by simpa using h2)
    rw [ih]
    simp

theorem foldl_put (vs : List Value) (o : Nat) (cs : Array Value) (h : o + vs.length ≤ cs.size) :
    ((vs.zipIdx 0).foldl (fun cs (x : Value × Nat) => cs.setIfInBounds (o + x.2) x.1) cs).toList = cs.toList.take o ++ (vs ++ cs.toList.drop (o + vs.length)) := by
  refine foldl_put' vs (cs.toList.take o) ((cs.toList.drop o).take vs.length) (cs.toList.drop (o + vs.length)) o 0 cs ?_ (by simp; omega) (by simp; omega)
  rw [← List.drop_drop, List.take_append_drop, List.take_append_drop]

section
variable {E : Eng A} {O : Nat → Prop} {ts : List (SV A)} {sh : List (SO A)} {env : List Wit} {a : Act} {w : World} {o : Oper} {K : Pred A} {C : Enc A}

theorem nilLike_eq {x y : Value} (h : isNilLike x y = true) : x = y := by
  unfold isNilLike at h
  split at h
  case h_6 =>
    rename_i p q
    simp only [Bool.and_eq_true, beq_iff_eq] at h
    have h1 : p = ByteArray.empty := by
      apply ByteArray.ext; apply Array.eq_empty_of_size_eq_zero; exact h.1
    have h2 : q = ByteArray.empty := by
      apply ByteArray.ext; apply Array.eq_empty_of_size_eq_zero; exact h.2
    rw [h1, h2]
  all_goals first | rfl | cases h

theorem zerosN_spec {k : IntKind} : ∀ {n : Nat} {vs us : List Value}, zerosN k n vs = some us → vs = (List.replicate n (0 : Int)).map (Value.int k) ++ us
  | 0, vs, us, h => by simp [zerosN] at h; simp [h]
  | n + 1, [], us, h => by simp [zerosN] at h
  | n + 1, v :: vs, us, h => by
    cases v <;> simp [zerosN] at h
    obtain ⟨rfl, rfl, h⟩ := h
    rw [zerosN_spec h]
    simp [List.replicate_succ]

/-- The zero cells are what they are held against. The runs' numbers are asked apart. -/
def zeroRuns : SL A → Prop
  | .nil => True
  | .cell _ r => zeroRuns r
  | .run _ n xs r => xs = List.replicate n 0 ∧ zeroRuns r

theorem chkZ_spec : ∀ {cs : SL A} {vs : List Value}, zeroRuns cs → chkZ cs vs = true → RepL O env w C cs vs
  | .nil, [], _, _ => .nil
  | .nil, _ :: _, _, h => by simp [chkZ] at h
  | .cell s r, [], _, h => by cases s <;> simp [chkZ] at h
  | .cell s r, v :: vs, hz, h => by
    cases s <;> try (simp [chkZ] at h; done)
    case lit k n =>
      cases v <;> simp [chkZ] at h
      obtain ⟨rfl, rfl, h⟩ := h
      exact .cell .lit (chkZ_spec hz h)
    case bl b =>
      cases v <;> simp [chkZ] at h
      obtain ⟨rfl, h⟩ := h
      exact .cell .bl (chkZ_spec hz h)
    case val u =>
      simp only [chkZ] at h
      split at h
      · rename_i h1
        have := nilLike_eq h1
        subst this
        exact .cell .val (chkZ_spec hz h)
      · cases h
  | .run k n xs r, vs, hz, h => by
    simp only [chkZ] at h
    split at h
    · rename_i us hu
      rw [zerosN_spec hu, ← hz.1]
      exact .run (by rw [hz.1]; simp) (chkZ_spec hz.2 h)
    · cases h

theorem zeroRuns_app : ∀ {x y : SL A}, zeroRuns x → zeroRuns y → zeroRuns (x.app y)
  | .nil, _, _, h => h
  | .cell _ r, _, h, k => by simp only [SL.app, zeroRuns]; exact zeroRuns_app (x := r) h k
  | .run _ _ _ r, _, h, k => by simp only [SL.app, zeroRuns]; exact ⟨h.1, zeroRuns_app (x := r) h.2 k⟩
theorem zeroRuns_rep : ∀ {n : Nat} {x : SL A}, zeroRuns x → zeroRuns (repSL n x)
  | 0, _, _ => trivial
  | _ + 1, _, h => zeroRuns_app h (zeroRuns_rep h)

mutual
theorem zeroSL_runs {P : Program} : ∀ {d : Nat} {t : TypeId} {x : SL A}, zeroSL P d t = some x → zeroRuns x
  | 0, _, _, h => by simp [zeroSL] at h
  | d + 1, t, x, h => by
    simp only [zeroSL] at h
    split at h <;> first | (cases h; done) | (cases h; trivial) | skip
    · split at h
      · cases h; exact ⟨rfl, trivial⟩
      · split at h
        · rename_i y hy
          cases h; exact zeroRuns_rep (zeroSL_runs hy)
        · cases h
    · exact zeroFs_runs h
theorem zeroFs_runs {P : Program} : ∀ {d : Nat} {fs : List Field} {x : SL A}, zeroFs P d fs = some x → zeroRuns x
  | _, [], _, h => by simp [zeroFs] at h; rw [← h]; trivial
  | 0, _ :: _, _, h => by simp [zeroFs] at h
  | d + 1, f :: fs, x, h => by
    simp only [zeroFs] at h
    split at h
    · rename_i y hy
      split at h
      · rename_i z hz
        cases h; exact zeroRuns_app (zeroSL_runs hy) (zeroFs_runs hz)
      · cases h
    · cases h
end

theorem tyZero_spec {P : Program} {t : TypeId} {cs : SL A} (h : tyZero P t = some cs) : ∃ i z, P.info? t = some i ∧ i.zero = some z ∧ ∀ (O : Nat → Prop) (env : List Wit) (w : World) (C : Enc A), RepL O env w C cs z.cells.toList := by
  unfold tyZero at h
  split at h
  · rename_i i hi
    split at h
    · rename_i z hz
      split at h
      · rename_i x hx
        split at h
        · rename_i hc
          cases h
          exact ⟨i, z, hi, hz, fun _ _ _ _ => chkZ_spec (zeroSL_runs hx) hc⟩
        · cases h
      · cases h
    · cases h
  · cases h

theorem rep_ptr_new (h : HR O env w C sh) (b : Nat) (w' : World) : Rep O (env ++ [.blk b]) w' C (.ptr (cnt sh) 0 : SV A) (.pointer (some ⟨b, 0, none⟩)) := by
  refine .ptr ?_
  rw [cnt_eq, h.len]
  simp [blkAt]

theorem op_alloc {t : TypeId} (ho : o.op = .alloc t) (h : Rel E O ts sh env a w) (hk : stepOp E (.alloc t) ts sh K) : OpOK E O o sh env a w K := by
  simp only [stepOp] at hk
  split at hk
  · rename_i cs hz
    obtain ⟨i, z, hi, hiz, hr⟩ := tyZero_spec hz
    obtain ⟨h1, h2⟩ := h.heap.new t cs z.cells.toList (hr O env w E.C)
    rw [snoc_eq] at hk
    rw [Array.toArray_toList] at h1 h2
    refine opOK_of_run (v := .pointer (some ⟨w.heap.size, 0, none⟩)) ?_ (rep_ptr_new h.heap _ _) h1 h2 (fun _ => Old.alloc _ _) hk
    simp [execOp, ho, Instr.alloc, zeroValue, typeInfo, hi, hiz, newVar, newRow]
  · exact hk.elim

theorem op_box {t : TypeId} {x : Operand} (ho : o.op = .box t x) (h : Rel E O ts sh env a w) (hk : stepOp E (.box t x) ts sh K) : OpOK E O o sh env a w K := by
  simp only [stepOp] at hk
  have hx := evr_rep h x
  split at hk
  · rename_i cs hz
    obtain ⟨hr, _⟩ := rep_toSL h.heap hz hx
    obtain ⟨h1, h2⟩ := h.heap.new t cs _ hr
    rw [snoc_eq] at hk
    rw [Array.toArray_toList] at h1 h2
    refine opOK_of_run (v := .pointer (some ⟨w.heap.size, 0, none⟩)) ?_ (rep_ptr_new h.heap _ _) h1 h2 (fun _ => Old.alloc _ _) hk
    simp [execOp, ho, Instr.box, newVar, newRow]
  · exact hk.elim
end
end Go.Eng
