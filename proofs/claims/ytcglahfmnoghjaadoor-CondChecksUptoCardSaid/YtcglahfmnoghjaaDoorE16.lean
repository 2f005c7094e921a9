/- The engine's operations are right: len, min, max, copy, slices and arrays that are written out. Conditions: none. -/
import Derived.Test.YtcglahfmnoghjaaDoorE15
namespace Go.Eng
open Go
variable {A : Nat → Type}

section
variable {E : Eng A} {O : Nat → Prop} {ts : List (SV A)} {sh : List (SO A)} {env : List Wit} {a : Act} {w : World} {o : Oper} {K : Pred A} {C : Enc A}

theorem op_len {c : Call} {t : TypeId} {x : Operand} (ho : o.op = .call c) (hc : c.callee = .builtin .len) (hat : c.argTypes = #[t]) (har : c.args = #[x]) (h : Rel E O ts sh env a w)
    (hk : builtinS E .len [t] [evr E ts sh x] sh K) : OpY E O o sh env a w K := by
  have hx := evr_rep h x
  have key : ∀ (v : Value) (s : SV A), (∀ w', (Builtin.len_ #[t] o.type #[a.eval x]).run E.P w' = .ok v w') → Rep O env w E.C s v → K s sh → OpY E O o sh env a w K := by
    intro v s hrun hr hK
    exact opY_same (fun w' => callee_builtin hc ho (f := Builtin.len_) (fun _ _ _ _ => rfl) (by rw [hat, har]; simp only [List.map_toArray, List.map_cons, List.map_nil]; exact hrun w')) hr hK
  generalize evr E ts sh x = sx at hx hk
  generalize a.eval x = vx at hx key
  simp only [builtinS] at hk
  split at hk
  · rename_i e hd
    have hu := under_of_desc hd (by simp)
    split at hk
    · exact hk.elim
    · rename_i hns
      split at hk
      · rename_i n l hl
        rcases lenS_slice h.heap hl hx with ⟨ad, m, c2, hv, hn, hm1, hm2⟩ | ⟨str, hs, _⟩
        · subst hv
          split at hk
          · refine key (.int .i64 (m : Nat)) _ (fun w' => ?_) (by rw [hn]; exact .lit) hk
            simp [Builtin.len_, run_underlying hu, goInt]
          · refine key (.int .i64 (m : Nat)) _ (fun w' => ?_) (by rw [hn]; exact .int) (hk ?_)
            · simp [Builtin.len_, run_underlying hu, goInt]
            · simp only [maxLen] at hm2; omega
        · exact (hns str hs).elim
      · exact hk.elim
  · rename_i n e hd
    have hu := under_of_desc hd (by simp)
    exact key (.int .i64 (n : Nat)) _ (fun w' => by simp [Builtin.len_, run_underlying hu, goInt]) .lit hk
  · exact hk.elim

theorem op_min {c : Call} {x y : Operand} (ho : o.op = .call c) (hc : c.callee = .builtin .min) (har : c.args = #[x, y]) (h : Rel E O ts sh env a w)
    (hk : builtinS E .min c.argTypes.toList [evr E ts sh x, evr E ts sh y] sh K) : OpOK E O o sh env a w K := by
  simp only [builtinS] at hk
  split at hk
  · rename_i k p l k' q m hp hq
    split at hk
    · rename_i hkk
      subst hkk
      have h1 := rep_asInt hp (evr_rep h x)
      have h2 := rep_asInt hq (evr_rep h y)
      refine opOK_same (v := .int k (min p q)) (callee_builtin hc ho (f := Builtin.min_) (fun _ _ _ _ => rfl) ?_) rep_mkInt h hk
      rw [har]
      simp only [List.map_toArray, List.map_cons, List.map_nil, h1, h2, Builtin.min_]
      simp only [List.foldlM_cons, List.foldlM_nil, Builtin.min2, bind_pure, Sem.run_pure]
      congr 2
      rw [Int.min_def]
      split <;> split <;> omega
    · exact hk.elim
  · exact hk.elim

theorem op_max {c : Call} {x y : Operand} (ho : o.op = .call c) (hc : c.callee = .builtin .max) (har : c.args = #[x, y]) (h : Rel E O ts sh env a w)
    (hk : builtinS E .max c.argTypes.toList [evr E ts sh x, evr E ts sh y] sh K) : OpOK E O o sh env a w K := by
  simp only [builtinS] at hk
  split at hk
  · rename_i k p l k' q m hp hq
    split at hk
    · rename_i hkk
      subst hkk
      have h1 := rep_asInt hp (evr_rep h x)
      have h2 := rep_asInt hq (evr_rep h y)
      refine opOK_same (v := .int k (max p q)) (callee_builtin hc ho (f := Builtin.max_) (fun _ _ _ _ => rfl) ?_) rep_mkInt h hk
      rw [har]
      simp only [List.map_toArray, List.map_cons, List.map_nil, h1, h2, Builtin.max_]
      simp only [List.foldlM_cons, List.foldlM_nil, Builtin.max2, bind_pure, Sem.run_pure]
      congr 2
      rw [Int.max_def]
      split <;> split <;> omega
    · exact hk.elim
  · exact hk.elim

/-- The first cells of what is read. -/
theorem run_first {P : Program} {v : Value} {m n : Nat} {vs : List Value} (h : Reads w v m vs) (hl : vs.length = m) (hn : n ≤ m) : (Builtin.firstCells 1 n v).run P w = .ok (vs.take n).toArray w := by
  have hz : ∀ ad c, v = .slice ad 0 c → m = 0 → (Builtin.firstCells 1 n v).run P w = .ok (vs.take n).toArray w := by
    intro ad c hv hm
    have h0 : n = 0 := by omega
    subst h0; subst hv
    cases ad <;> simp [Builtin.firstCells, loadCells, loadCellsFrom]
  rcases h with ⟨ad, c, hv, h2⟩ | ⟨h2, h3, ad, c, hv⟩
  · rcases h2 with ⟨h3, h4, _⟩ | ⟨b, o', h3, hc⟩
    · exact hz ad c (by rw [hv, h4]) h4
    · subst hv; subst h3
      have := run_loadCells_list (P := P) w ⟨b, o', none⟩ (vs.take n) (fun j u hu => by
        rw [List.getElem?_take] at hu
        split at hu
        · rw [Addr.add_lit]; exact hc j u hu
        · cases hu)
      have hlen : (vs.take n).length = n := by simp; omega
      rw [hlen] at this
      simp [Builtin.firstCells, this]
  · exact hz ad c hv h3

theorem reads_slice {v : Value} {m : Nat} {vs : List Value} (h : Reads w v m vs) : ∃ ad c, v = .slice ad m c := by
  rcases h with ⟨ad, c, hv, _⟩ | ⟨_, h3, ad, c, hv⟩
  · exact ⟨ad, c, hv⟩
  · exact ⟨ad, c, by rw [hv, h3]⟩

theorem copyInts_length (old xs : List Int) : (copyInts old xs).length = old.length := by
  simp [copyInts]; omega

theorem copy_map {k : IntKind} (old xs : List Int) : (xs.map (Value.int k)).take (min xs.length old.length) ++ (old.map (Value.int k)).drop (min xs.length old.length) = (copyInts old xs).map (Value.int k) := by
  unfold copyInts
  rw [List.map_append, List.map_take, List.map_drop]
  rcases Nat.le_total xs.length old.length with h | h
  · rw [Nat.min_eq_left h, List.take_of_length_le (by simp), List.take_of_length_le (l := xs.map _) (by simp; omega)]
  · rw [Nat.min_eq_right h, List.drop_of_length_le (by simp), List.drop_of_length_le (l := old.map _) (by simp; omega)]

theorem op_copy {c : Call} {t t' : TypeId} {x y : Operand} (ho : o.op = .call c) (hc : c.callee = .builtin .copy) (hat : c.argTypes = #[t, t']) (har : c.args = #[x, y]) (h : Rel E O ts sh env a w)
    (hk : copyS E t (evr E ts sh x) (evr E ts sh y) sh K) : OpOK E O o sh env a w K := by
  have hx := evr_rep h x
  have hy := evr_rep h y
  have key : ∀ (v : Value) (w' : World) (s : SV A) (sh' : List (SO A)) (env' : List Wit), (Builtin.copy_ #[t, t'] o.type #[a.eval x, a.eval y]).run E.P w = .ok v w' → Rep O env' w' E.C s v → HR O env' w' E.C sh' → Step env w env' w' → K s sh' → OpOK E O o sh env a w K := by
    intro v w' s sh' env' hrun hr hh hs hK
    exact opOK_of_run (callee_builtin hc ho (f := Builtin.copy_) (fun _ _ _ _ => rfl) (by rw [hat, har]; simp only [List.map_toArray, List.map_cons, List.map_nil]; exact hrun)) hr hh hs (fun hq => by simp [quietOp, ho, hc] at hq) hK
  generalize evr E ts sh x = sx at hx hk
  generalize evr E ts sh y = sy at hy hk
  generalize a.eval x = vx at hx key
  generalize a.eval y = vy at hy key
  unfold copyS at hk
  split at hk
  case h_2 => exact hk.elim
  rename_i el hd
  have hu := under_of_desc hd (by simp)
  split at hk
  case isFalse => exact hk.elim
  rename_i hs1
  obtain ⟨ei, hei, hes⟩ := info_of_tsize (P := E.P) hs1 (by omega)
  split at hk
  · exact hk.elim
  · rename_i k' xs hxs
    have run : ∀ (b off n c2 : Nat) (e : TypeId) (k : IntKind) (vs : List Value), vx = .slice (some ⟨b, off, none⟩) n c2 → kindOk k' k = true → w.heap[b]? = some (.cells vs.toArray e (0, 0)) → off + n ≤ vs.length →
        (Builtin.copy_ #[t, t'] o.type #[vx, vy]).run E.P w = .ok (.int .i64 (min xs.length n : Nat)) (w.setRow b (vs.take off ++ (xs.map (Value.int k)).take (min xs.length n) ++ vs.drop (off + min xs.length n)).toArray) := by
      intro b off n c2 e k vs hv hkk hb hfit
      have hrd := ints_reads h.heap hxs hkk hy
      obtain ⟨ad, c3, hvy⟩ := reads_slice hrd
      have hf := run_first (P := E.P) hrd (by simp) (Nat.min_le_left xs.length n)
      have hst := run_storeCells_at E.P b off e ((xs.map (Value.int k)).take (min xs.length n)) 0 vs.toArray w hb (by simp; omega) (by
        intro u hu
        have := List.mem_of_mem_take hu
        obtain ⟨z, _, rfl⟩ := List.mem_map.1 this; rfl)
      have hlen : ((xs.map (Value.int k)).take (min xs.length n)).length = min xs.length n := by simp
      rw [hlen] at hst
      subst hv
      have hlo : (Builtin.lenOf vy).run E.P w = .ok xs.length w := by rw [hvy]; simp [Builtin.lenOf]
      simp only [Builtin.copy_]
      simp only [Nat.add_zero] at hst
      simp [run_underlying hu, hlo, sizeOf, typeInfo, hei, hes, hf, hst, goInt]
    split at hk
    · rename_i i off n
      split at hk
      · rename_i e cs hi
        split at hk
        · rename_i k m old hrun
          split at hk
          · rename_i hm
            split at hk
            · rename_i hkk
              obtain ⟨b, vs, hb, hcb, hr⟩ := h.heap.cells hi
              obtain ⟨c2, hv, _, _⟩ := blkAt_some hx.inv_asl hb
              obtain ⟨hl, pre, post, h1, h2, h3⟩ := hr.runAt hrun
              have hrn := run b off n c2 e k vs hv hkk hcb (by rw [h1]; simp; omega)
              rw [setNth_eq] at hk
              refine key _ _ _ _ _ hrn .int (h.heap.set hb rfl _ ?_) (step_setRow hb rfl _) hk
              refine ⟨_, setRow_heap w b _ _ e (0, 0) hcb, ?_⟩
              have h4 := h3 (copyInts old xs) (by rw [copyInts_length]; exact hl)
              have e5 : vs.take off ++ (xs.map (Value.int k)).take (min xs.length n) ++ vs.drop (off + min xs.length n) = pre ++ ((copyInts old xs).map (Value.int k) ++ post) := by
                rw [← copy_map, hl, hm, h1, ← h2]
                rw [List.take_left, List.drop_append, List.drop_of_length_le (by omega), List.nil_append, Nat.add_sub_cancel_left, List.drop_append_of_le_length (by simp; omega)]
                simp only [List.append_assoc]
              rw [e5]
              exact h4.step (step_setRow hb rfl _)
            · exact hk.elim
          · exact hk.elim
        · exact hk.elim
      · exact hk.elim
    · rename_i i
      split at hk
      · rename_i e k old hi
        split at hk
        · rename_i hkk
          obtain ⟨v, hb, hown⟩ := h.heap.ivec hi
          have hv := slAt_some hx.inv_vec hb
          subst hv
          rcases hown.2 with ⟨h1, h2⟩ | ⟨g, cap, cur, h1, h3, h4, h5, h6, h7, h8⟩
          · have hold : old = [] := List.eq_nil_of_length_eq_zero h2
            subst hold
            have hrd := ints_reads h.heap hxs hkk hy
            obtain ⟨ad, c3, hvy⟩ := reads_slice hrd
            have hlo : (Builtin.lenOf vy).run E.P w = .ok xs.length w := by rw [hvy]; simp [Builtin.lenOf]
            have hf := run_first (P := E.P) hrd (by simp) (Nat.zero_le _)
            have e6 : sh.set i (.ivec e k (copyInts [] xs)) = sh := by
              apply List.ext_getElem?
              intro j
              by_cases hj : i = j
              · subst hj
                rw [nth_eq] at hi
                rw [List.getElem?_set_self (List.getElem?_eq_some_iff.1 hi).1, hi]
                simp [copyInts]
              · rw [List.getElem?_set_ne hj]
            rw [setNth_eq, e6] at hk
            refine key (.int .i64 (min xs.length 0 : Nat)) w _ _ _ ?_ .int h.heap (Step.refl _ _) (by simpa using hk)
            rw [h1]
            simp only [Builtin.copy_]
            simp [run_underlying hu, hlo, sizeOf, typeInfo, hei, hes, hf, goInt]
          · have hg' : w.heap[g]? = some (.cells cur.toList.toArray e (0, 0)) := by simpa using h4
            simp only [Nat.mul_one] at h7 h8
            have hrn := run g 0 old.length cap e k cur.toList h1 hkk hg' (by simp; omega)
            rw [setNth_eq] at hk
            subst h1
            refine key _ _ _ _ _ hrn .int (h.heap.set hb (by simp [Wit.owns, Value.ownBlock]) _ ?_) (step_setRow hb (by simp [Wit.owns, Value.ownBlock]) _) hk
            have hcl := copyInts_length old xs
            refine ⟨by simp, .inr ⟨g, cap, _, by rw [hcl], Nat.zero_le _, setRow_heap w g _ _ e (0, 0) hg', by omega, h6, ?_, ?_⟩⟩
            · simp; omega
            · rw [hcl, ← copy_map]
              simp only [Nat.mul_one, List.take_zero, List.nil_append, Nat.zero_add]
              have hsp : cur.toList = old.map (Value.int k) ++ cur.toList.drop old.length := by
                conv => lhs; rw [← List.take_append_drop old.length cur.toList]
                rw [h8]
              rw [hsp, List.drop_append_of_le_length (by simp; omega), ← List.append_assoc, List.take_append_of_le_length (by simp; omega), List.take_of_length_le (by simp; omega)]
        · exact hk.elim
      · exact hk.elim
    · exact hk.elim
end
end Go.Eng
