/- The engine's operations are right: reads. Conditions: none. -/
import Derived.Test.YtcglahfmnoghjaaDoorE7
namespace Go.Eng
open Go
variable {A : Nat → Type}

theorem okT_spec {P : Program} {t : TypeId} (h : okT P t = true) : desc P t ≠ .invalid ∧ tsize P t ≠ 0 ∧ ∀ n e k', desc P t = .array n e → desc P e = .int k' → tsize P t = n := by
  unfold okT at h
  split at h
  · cases h
  · rename_i n e hd
    split at h
    · split at h
      · split at h
        · cases h
        · rename_i h1 h2
          refine ⟨by simp [hd], by omega, fun n' e' k' h3 _ => ?_⟩
          rw [hd] at h3; cases h3; exact h1
      · cases h
    · rename_i hx
      split at h
      · cases h
      · refine ⟨by simp [hd], by assumption, fun n' e' k' h3 h4 => ?_⟩
        rw [hd] at h3; cases h3; exact absurd h4 (hx k')
  · rename_i h1 h2
    split at h
    · cases h
    · exact ⟨by assumption, by assumption, fun n e k' h3 _ => absurd h3 (h2 n e)⟩

section
variable {E : Eng A} {O : Nat → Prop} {ts : List (SV A)} {sh : List (SO A)} {env : List Wit} {a : Act} {w : World} {o : Oper} {K : Pred A}

theorem cell_of_cells {b : Nat} {vs : List Value} {e : TypeId} (hb : w.heap[b]? = some (.cells vs.toArray e (0, 0))) (j : Nat) : w.cell? ⟨b, j, none⟩ = vs[j]? := by
  rw [cell_of_row w b j vs.toArray e (0, 0) hb]; simp

theorem own_some {b n c : Nat} {e : TypeId} {size m : Nat} {vs : List Value} (h : w.ownsRow 0 e size (.slice (some ⟨b, 0, none⟩) n c) m vs) :
    n = m ∧ m ≤ c ∧ ∃ cur : Array Value, w.heap[b]? = some (.cells cur e (0, 0)) ∧ cur.size = c * size ∧ cur.toList.take (m * size) = vs ∧ c ≤ maxLen := by
  rcases h.2 with ⟨h1, _⟩ | ⟨g, cap, cur, h1, _, h3, h4, h5, h6, h7⟩
  · cases h1
  · cases h1; exact ⟨rfl, h4, cur, h3, h6, h7, h5⟩

theorem own_cell {b n c : Nat} {e : TypeId} {size m : Nat} {vs : List Value} (h : w.ownsRow 0 e size (.slice (some ⟨b, 0, none⟩) n c) m vs) (j : Nat) (u : Value) (hu : vs[j]? = some u) :
    w.cell? ⟨b, j, none⟩ = some u := by
  obtain ⟨_, _, cur, hg, _, ht, _⟩ := own_some h
  rw [cell_of_row w b j cur e (0, 0) hg]
  rw [← ht, List.getElem?_take] at hu
  split at hu
  · simpa using hu
  · cases hu

theorem Old.cell {w w' : World} (h : Old w w') {a : Addr} {u : Value} (hc : w.cell? a = some u) : w'.cell? a = some u := by
  have hb := h.same a.block (World.block_lt_of_cell? w a hc)
  simp only [World.cell?, hb] at hc ⊢
  exact hc

/-- What a read comes to. -/
theorem run_loadS {t : TypeId} {x : Operand} {K' : SV A → Prop} (h : Rel E O ts sh env a w) (hk : loadS E t (evr E ts sh x) sh K') :
    ∃ ad v s, a.eval x = .pointer (some ad) ∧ (∀ w', Old w w' → (loadVar t ad).run E.P w' = .ok v w') ∧ Rep O env w E.C s v ∧ K' s := by
  have hx := evr_rep h x
  generalize evr E ts sh x = sx at hx hk
  generalize a.eval x = vx at hx ⊢
  unfold loadS at hk
  split at hk
  case isFalse => exact hk.elim
  rename_i hok
  obtain ⟨hd, hne, harr⟩ := okT_spec hok
  split at hk
  · rename_i i off
    split at hk
    · rename_i e cs hi
      split at hk
      · rename_i s hs
        obtain ⟨b, vs, hb, hc, hr⟩ := h.heap.cells hi
        have hv := blkAt_some hx.inv_ptr hb
        obtain ⟨v, h1, h2⟩ := run_rdCells (w := w) (b := b) (o := 0) hd hne hr hs
        rw [Nat.zero_add] at h1
        exact ⟨_, v, s, hv, fun w' ho => h1 w' (fun j u hu => ho.cell (by rw [Nat.zero_add, cell_of_cells hc]; exact hu)), h2, hk⟩
      · exact hk.elim
    · exact hk.elim
  · rename_i i off n j
    split at hk
    · rename_i e cs hi
      split at hk
      · rename_i k m xs hrun
        split at hk
        · exact hk.elim
        · rename_i hag
          split at hk
          · rename_i hmn
            obtain ⟨b, vs, hb, hc, hr⟩ := h.heap.cells hi
            obtain ⟨hv, hj⟩ := blkAt_some hx.inv_aptr hb
            obtain ⟨hl, pre, post, h1, h2, h3⟩ := hr.runAt hrun
            refine ⟨_, .int k (xs.getD j 0), _, hv, fun w' ho => run_loadVar_one (by simpa using hag) hd (ho.cell ?_), .int, hk⟩
            rw [cell_of_cells hc, h1, List.getElem?_append_right (by omega), List.getElem?_append_left (by simp; omega), h2, Nat.add_sub_cancel_left, List.getElem?_map,
              List.getElem?_eq_getElem (by omega), List.getD_eq_getElem?_getD, List.getElem?_eq_getElem (by omega)]
            rfl
          · exact hk.elim
      · exact hk.elim
    · exact hk.elim
  · rename_i k n xs off
    obtain ⟨b, o', vs, hv, hO, he, hlt, hc, hr⟩ := hx.inv_rptr
    obtain ⟨us, hn, rfl, hr'⟩ := hr.inv_run
    have hu := hr'.inv_nil
    subst hu
    obtain ⟨v, s, h1, h2, h3⟩ := run_rdRun (w := w) (b := b) (o := o') (C := E.C) (O := O) (env := env) hne harr hk
    exact ⟨_, v, s, hv, fun w' ho => h1 w' (fun i u hu => ho.cell (hc i u (by simpa using hu))), h2, h3⟩
  · rename_i cs off hno
    split at hk
    · rename_i s hs
      obtain ⟨b, o', vs, hv, hO, he, hlt, hc, hr⟩ := hx.inv_rptr
      obtain ⟨v, h1, h2⟩ := run_rdCells (w := w) (b := b) (o := o') hd hne hr hs
      exact ⟨_, v, s, hv, fun w' ho => h1 w' (fun i u hu => ho.cell (hc i u hu)), h2, hk⟩
    · exact hk.elim
  · rename_i i j size off
    split at hk
    · rename_i e k xs hi
      split at hk
      · exact hk.elim
      · rename_i hag
        split at hk
        · rename_i hs1
          split at hk
          · rename_i ho
            obtain ⟨hj, hK⟩ := hk
            obtain ⟨v, hv, hown⟩ := h.heap.ivec hi
            obtain ⟨b, n, c, hv1, hv2⟩ := slAt_some hx.inv_vptr hv
            subst hv1; subst hs1; subst ho
            refine ⟨_, .int k (xs.getD j 0), _, hv2, fun w' ho => run_loadVar_one (by simpa using hag) hd (ho.cell (own_cell hown _ _ ?_)), .int, hK⟩
            simp [hj]
          · exact hk.elim
        · exact hk.elim
    · rename_i e xs hi
      split at hk
      · rename_i hsz
        obtain ⟨hj, hK⟩ := hk
        have hK := hK xs[j] (List.getElem?_eq_getElem hj)
        split at hK
        · rename_i s hs
          obtain ⟨v, vs, hv, hown, hrows⟩ := h.heap.svec hi
          obtain ⟨b, n, c, hv1, hv2⟩ := slAt_some hx.inv_vptr hv
          subst hv1
          have hr := hrows j _ (List.getElem?_eq_getElem hj)
          obtain ⟨v, h1, h2⟩ := run_rdCells (w := w) (b := b) (o := j * E.C.size e) hd hne hr hs
          rw [hsz] at hv2
          exact ⟨_, v, s, hv2, fun w' ho => h1 w' (fun i u hu => ho.cell (own_cell hown _ _ (by
            rw [List.getElem?_take] at hu
            split at hu
            · rwa [List.getElem?_drop] at hu
            · cases hu))), h2, hK⟩
        · exact hK.elim
      · exact hk.elim
    · exact hk.elim
  · exact hk.elim

theorem op_load {t : TypeId} {x : Operand} (ho : o.op = .load t x) (h : Rel E O ts sh env a w) (hk : loadS E t (evr E ts sh x) sh fun v => K v sh) : OpOK E O o sh env a w K := by
  obtain ⟨ad, v, s, hx, h1, h2, h3⟩ := run_loadS h hk
  exact opOK_same (v := v) (by simp only [execOp, ho, hx, Instr.loadAt, Instr.sureAddr]; simp [h1 w (Old.refl _)]) h2 h h3
end
end Go.Eng
