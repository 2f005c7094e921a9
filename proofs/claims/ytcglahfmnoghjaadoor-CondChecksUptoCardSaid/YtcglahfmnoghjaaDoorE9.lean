/- The engine's operations are right: writes. Conditions: none. -/
import Derived.Test.YtcglahfmnoghjaaDoorE8
namespace Go.Eng
open Go
variable {A : Nat → Type}

section
variable {O : Nat → Prop} {env : List Wit} {w : World} {C : Enc A} {sh : List (SO A)}

theorem step_setRow {i b : Nat} {x : Wit} (hx : env[i]? = some x) (hb : x.owns b) (cs : Array Value) : Step env w env (w.setRow b cs) :=
  ⟨rfl, rfl, rfl, by simp, Nat.le_refl _, fun _ x h => ⟨x, h, .refl x⟩, fun _ h => .inl h, fun b' _ hn => setRow_other w b b' cs (fun e => hn (e ▸ ⟨i, x, hx, hb⟩))⟩

/-- An entry's memory is written, and it stays where it is. -/
theorem HR.set (h : HR O env w C sh) {i b : Nat} {x : Wit} {so : SO A} (hx : env[i]? = some x) (hb : x.owns b) (cs : Array Value)
    (hr : ORep O env (w.setRow b cs) C so x) : HR O env (w.setRow b cs) C (sh.set i so) where
  len := by simp [h.len]
  rep := fun j so' x' h1 h2 => by
    by_cases e : i = j
    · subst e
      have hl : i < sh.length := by have := (List.getElem?_eq_some_iff.1 h1).1; simpa using this
      rw [List.getElem?_set_self hl] at h1
      rw [hx] at h2
      cases h1; cases h2
      exact hr
    · rw [List.getElem?_set_ne e] at h1
      refine (h.rep j so' x' h1 h2).step (step_setRow hx hb cs) (fun b' hb' => setRow_other w b b' cs (fun e' => ?_))
      subst e'
      exact e (h.disj i j x x' b' hx h2 hb hb')
  disj := h.disj
  out := h.out
  lt := fun b' hb' => by simpa using h.lt b' hb'
  olt := fun b' hb' => by simpa using h.olt b' hb'

/-- A store of cells into a block. -/
theorem run_storeVar {P : Program} {t : TypeId} {b off : Nat} {v : Value} {e : TypeId} {vs : List Value} (hsz : tsize P t = v.cells.size) (hne : tsize P t ≠ 0) (hb : w.heap[b]? = some (.cells vs.toArray e (0, 0)))
    (hfit : off + v.cells.size ≤ vs.length) (h1 : ∀ u ∈ v.cells.toList, u.oneCell' = true) :
    (storeVar t ⟨b, off, none⟩ v).run P w = .ok () (w.setRow b (vs.take off ++ v.cells.toList ++ vs.drop (off + v.cells.size)).toArray) := by
  obtain ⟨i, hi, hs⟩ := info_of_tsize hsz (by omega)
  have hst := run_storeCells_at P b off e v.cells.toList 0 vs.toArray w hb (by simpa using hfit) h1
  simp only [Nat.add_zero] at hst
  simp only [storeVar, Sem.run_bind, sizeOf, typeInfo]
  simp [hi, hs, hst]
end

section
variable {E : Eng A} {O : Nat → Prop} {ts : List (SV A)} {sh : List (SO A)} {env : List Wit} {a : Act} {w : World} {o : Oper} {K : Pred A} {C : Enc A}

theorem live_ptr (hh : HR O env w C sh) {i : Nat} {P : Nat → Prop} (h1 : alive sh i = true) (h : blkAt env i P) : ∃ b, env[i]? = some (.blk b) ∧ P b := by
  rcases alive_not_dead hh h1 with ⟨b, hb⟩ | ⟨u, hb⟩
  · exact ⟨b, hb, blkAt_some h hb⟩
  · simp [blkAt, hb] at h
theorem live_vec (hh : HR O env w C sh) {i : Nat} {P : Value → Prop} (h1 : alive sh i = true) (h : slAt env i P) : ∃ v, env[i]? = some (.sl v) ∧ P v ∧ (v = .slice none 0 0 ∨ ∃ g n c, v = .slice (some ⟨g, 0, none⟩) n c) := by
  rcases alive_not_dead hh h1 with ⟨b, hb⟩ | ⟨u, hb⟩
  · simp [slAt, hb] at h
  · refine ⟨u, hb, slAt_some h hb, ?_⟩
    unfold alive at h1
    split at h1
    · rename_i hi; obtain ⟨b, _, hb', _⟩ := hh.cells hi; rw [hb] at hb'; cases hb'
    · rename_i hi; obtain ⟨u', hb', ho⟩ := hh.ivec hi; rw [hb] at hb'; cases hb'
      rcases ho.2 with ⟨h2, _⟩ | ⟨g, cap, cur, h2, _⟩
      · exact .inl h2
      · exact .inr ⟨_, _, _, h2⟩
    · rename_i hi; obtain ⟨u', _, hb', ho, _⟩ := hh.svec hi; rw [hb] at hb'; cases hb'
      rcases ho.2 with ⟨h2, _⟩ | ⟨g, cap, cur, h2, _⟩
      · exact .inl h2
      · exact .inr ⟨_, _, _, h2⟩
    · cases h1

theorem oneCell_alive {s : SV A} {v : Value} (hh : HR O env w C sh) (h1 : oneCell sh s = true) (h : Rep O env w C s v) : v.oneCell' = true ∧ v.cells = #[v] := by
  cases s
  case junk | undef | aptr | asl | rptr | vptr | agg | tup => simp [oneCell] at h1
  case int => rw [h.inv_int]; exact ⟨rfl, rfl⟩
  case lit => rw [h.inv_lit]; exact ⟨rfl, rfl⟩
  case bl => rw [h.inv_bl]; exact ⟨rfl, rfl⟩
  case sb => rw [h.inv_sb]; exact ⟨rfl, rfl⟩
  case val u => rw [h.inv_val]; cases u <;> first | exact ⟨rfl, rfl⟩ | simp [oneCell] at h1
  case ptr => obtain ⟨b, _, hv⟩ := live_ptr hh h1 h.inv_ptr; rw [hv]; exact ⟨rfl, rfl⟩
  case vec => obtain ⟨u, _, hv, h2 | ⟨_, _, _, h2⟩⟩ := live_vec hh h1 h.inv_vec <;> rw [hv, h2] <;> exact ⟨rfl, rfl⟩
  case rints => obtain ⟨_, _, hv, _⟩ := h.inv_rints; rw [hv]; exact ⟨rfl, rfl⟩
  case rseq => obtain ⟨_, _, _, hv, _⟩ := h.inv_rseq; rw [hv]; exact ⟨rfl, rfl⟩
  case iface => obtain ⟨_, hv, _⟩ := h.inv_iface; rw [hv]; exact ⟨rfl, rfl⟩
  case fn => obtain ⟨_, _, hv, _⟩ := h.inv_fn; rw [hv]; exact ⟨rfl, rfl⟩
  case err => rcases h.inv_err with ⟨_, hv⟩ | ⟨_, hv⟩ <;> rw [hv] <;> exact ⟨rfl, rfl⟩

theorem storable_cells (hh : HR O env w C sh) : ∀ {cs : SL A} {vs : List Value}, storable sh cs = true → RepL O env w C cs vs → ∀ u ∈ vs, u.oneCell' = true
  | .nil, _, _, h => by rw [h.inv_nil]; simp
  | .cell s r, _, hs, h => by
    obtain ⟨u, us, rfl, h1, h2⟩ := h.inv_cell
    simp only [storable] at hs
    split at hs
    case isFalse => cases hs
    rename_i hs1
    intro x hx
    rcases List.mem_cons.1 hx with e | hx
    · subst e; exact (oneCell_alive hh hs1 h1).1
    · exact storable_cells hh hs h2 x hx
  | .run k n xs r, _, hs, h => by
    obtain ⟨us, hn, rfl, hr⟩ := h.inv_run
    simp only [storable] at hs
    intro x hx
    rcases List.mem_append.1 hx with hx | hx
    · obtain ⟨y, _, rfl⟩ := List.mem_map.1 hx; rfl
    · exact storable_cells hh hs hr x hx

theorem rep_toSL (hh : HR O env w C sh) {s : SV A} {cs : SL A} {v : Value} (e : toSL sh s = some cs) (h : Rep O env w C s v) :
    RepL O env w C cs v.cells.toList ∧ ∀ u ∈ v.cells.toList, u.oneCell' = true := by
  unfold toSL at e
  split at e
  · split at e
    · rename_i hs
      cases e
      obtain ⟨us, rfl, hr⟩ := h.inv_agg
      have hr := rep_rslL hh hr
      exact ⟨hr, storable_cells hh hs hr⟩
    · cases e
  · split at e
    · rename_i h1
      cases e
      obtain ⟨h2, h3⟩ := oneCell_alive hh h1 h
      rw [h3]
      exact ⟨.cell h .nil, by simpa using h2⟩
    · cases e

/-- What a store comes to. -/
theorem op_store {t : TypeId} {x y : Operand} (ho : o.op = .store t x y) (h : Rel E O ts sh env a w) (hk : storeS E t (evr E ts sh x) (evr E ts sh y) sh fun sh' => K .undef sh') : OpOK E O o sh env a w K := by
  have hx := evr_rep h x
  have hy := evr_rep h y
  have key : ∀ (ad : Addr) (w' : World) sh', a.eval x = .pointer (some ad) → (storeVar t ad (a.eval y)).run E.P w = .ok () w' → HR O env w' E.C sh' → Step env w env w' → K .undef sh' → OpOK E O o sh env a w K := by
    intro ad w' sh' hv hrun hh hs hK next Q hn
    unfold Oper.wp
    have : (execOp a.eval o).run E.P w = .ok .skip w' := by
      simp only [execOp, ho, hv, Instr.storeAt, Instr.sureAddr]
      simp [hrun]
    rw [this]
    exact hn _ _ _ _ _ .undef hh hs (fun hq => by simp [quietOp, ho] at hq) hK
  generalize evr E ts sh x = sx at hx hk
  generalize evr E ts sh y = sy at hy hk
  generalize a.eval x = vx at hx key
  generalize a.eval y = vy at hy key
  unfold storeS at hk
  split at hk
  · rename_i i off
    split at hk
    · rename_i e cs hi
      split at hk
      · rename_i d hd
        split at hk
        · rename_i hlen
          split at hk
          · exact hk.elim
          · rename_i hne
            split at hk
            · rename_i cs' hput
              obtain ⟨b, vs, hb, hc, hr⟩ := h.heap.cells hi
              have hv := blkAt_some hx.inv_ptr hb
              obtain ⟨hrd, hone⟩ := rep_toSL h.heap hd hy
              obtain ⟨hr2, hfit⟩ := hr.put hrd hput
              have hsz : tsize E.P t = vy.cells.size := by rw [← hlen, ← hrd.length]; simp
              have hrun := run_storeVar (P := E.P) (w := w) (off := off) hsz hne hc (by simpa using hfit) hone
              rw [setNth_eq] at hk
              refine key _ _ _ hv hrun (h.heap.set hb rfl _ ?_) (step_setRow hb rfl _) hk
              refine ⟨_, setRow_heap w b _ _ e (0, 0) hc, ?_⟩
              simp only [Array.length_toList] at hr2
              exact hr2.step (step_setRow hb rfl _)
            · exact hk.elim
        · exact hk.elim
      · exact hk.elim
    · exact hk.elim
  · rename_i i off m j
    split at hk
    · rename_i e cs hi
      split at hk
      · rename_i k m' xs k' n l hrun hn
        split at hk
        · rename_i hkk
          split at hk
          · rename_i hsz
            split at hk
            · rename_i hm
              subst hkk; subst hm
              obtain ⟨b, vs, hb, hc, hr⟩ := h.heap.cells hi
              obtain ⟨hv, hj⟩ := blkAt_some hx.inv_aptr hb
              have hvy := rep_asInt hn hy
              subst hvy
              obtain ⟨hl, pre, post, h1, h2, h3⟩ := hr.runAt hrun
              have hrs := run_storeVar (P := E.P) (w := w) (off := off + j) (v := .int k n) (by rw [hsz]; rfl) (by omega) hc (by rw [h1]; simp [Value.cells]; omega) (by simp [Value.cells, Value.oneCell'])
              rw [setNth_eq] at hk
              refine key _ _ _ hv hrs (h.heap.set hb rfl _ ?_) (step_setRow hb rfl _) hk
              refine ⟨_, setRow_heap w b _ _ e (0, 0) hc, ?_⟩
              have h4 := h3 (xs.set j n) (by simp [hl])
              have e5 : vs.take (off + j) ++ (Value.int k n).cells.toList ++ vs.drop (off + j + (Value.int k n).cells.size) = pre ++ ((xs.set j n).map (Value.int k) ++ post) := by
                subst h1
                rw [← h2]
                simp only [Value.cells]
                rw [List.take_append, List.take_of_length_le (by omega), Nat.add_sub_cancel_left, List.take_append_of_le_length (by simp; omega)]
                rw [List.drop_append, List.drop_of_length_le (by omega), List.nil_append]
                rw [show pre.length + j + (#[Value.int k n] : Array Value).size - pre.length = j + 1 from by simp; omega]
                rw [List.drop_append_of_le_length (by simp; omega)]
                rw [List.map_set, List.set_eq_take_append_cons_drop, if_pos (by simp; omega)]
                simp
              rw [e5]
              exact h4.step (step_setRow hb rfl _)
            · exact hk.elim
          · exact hk.elim
        · exact hk.elim
      · exact hk.elim
    · exact hk.elim
  · rename_i i j size off
    split at hk
    · rename_i e k xs hi
      split at hk
      · rename_i k' n l hn
        split at hk
        · rename_i hkk
          split at hk
          · rename_i hsz
            split at hk
            · rename_i hs1
              split at hk
              · rename_i hoff
                obtain ⟨hj, hk⟩ := hk
                subst hkk; subst hs1; subst hoff
                obtain ⟨u, hu, hown⟩ := h.heap.ivec hi
                obtain ⟨b, n', c, hv1, hv2⟩ := slAt_some hx.inv_vptr hu
                subst hv1
                obtain ⟨e1, e2, cur, hg, hcs, htake, hcm⟩ := own_some hown
                have hvy := rep_asInt hn hy
                subst hvy
                subst e1
                have hg' : w.heap[b]? = some (.cells cur.toList.toArray e (0, 0)) := by simpa using hg
                have hrs := run_storeVar (P := E.P) (w := w) (off := j * 1 + 0) (v := .int k n) (by rw [hsz]; rfl) (by omega) hg' (by simp [Value.cells]; omega) (by simp [Value.cells, Value.oneCell'])
                rw [setNth_eq] at hk
                refine key _ _ _ hv2 hrs (h.heap.set hu (by simp [Wit.owns, Value.ownBlock]) _ ?_) (step_setRow hu (by simp [Wit.owns, Value.ownBlock]) _) hk
                refine ⟨by simp, .inr ⟨b, c, _, by simp, Nat.zero_le _, setRow_heap w b _ _ e (0, 0) hg, by simpa using e2, hcm, ?_, ?_⟩⟩
                · simp [Value.cells]; omega
                · simp only [Value.cells, Nat.mul_one, Nat.add_zero, List.length_set] at htake ⊢
                  rw [List.map_set, ← htake, ← List.take_set, List.set_eq_take_append_cons_drop, if_pos (by simp; omega)]
                  simp
              · exact hk.elim
            · exact hk.elim
          · exact hk.elim
        · exact hk.elim
      · exact hk.elim
    · exact hk.elim
  · exact hk.elim
end
end Go.Eng
