/- The engine's operations are right: built-in functions. Conditions: none. -/
import Derived.Test.YtcglahfmnoghjaaDoorE14
namespace Go.Eng
open Go
variable {A : Nat → Type}

section
variable {E : Eng A} {O : Nat → Prop} {ts : List (SV A)} {sh : List (SO A)} {env : List Wit} {a : Act} {w : World} {o : Oper} {K : Pred A} {C : Enc A}

/-- What is read of a slice: so many cells at its address. -/
def Reads (w : World) (v : Value) (m : Nat) (vs : List Value) : Prop :=
  (∃ ad c, v = .slice ad m c ∧ ((ad = none ∧ m = 0 ∧ vs = []) ∨ ∃ b o, ad = some ⟨b, o, none⟩ ∧ ∀ (j : Nat) u, vs[j]? = some u → w.cell? ⟨b, o + j, none⟩ = some u)) ∨
  (vs = [] ∧ m = 0 ∧ ∃ ad c, v = .slice ad 0 c)

theorem reads_of_ro {ad : Option Addr} {c m : Nat} {vs : List Value} (h : ROat O env w ad vs) (hm : vs = [] → m = 0) : Reads w (.slice ad m c) m vs := by
  rcases h with h | ⟨b, o', had, _, _, hc⟩
  · rw [hm h]
    exact .inr ⟨h, rfl, ad, c, rfl⟩
  · exact .inl ⟨ad, c, rfl, .inr ⟨b, o', had, hc⟩⟩

theorem reads_of_own {e : TypeId} {size n : Nat} {v : Value} {vs : List Value} (h : w.ownsRow 0 e size v n vs) : Reads w v n vs := by
  rcases h.2 with ⟨h1, h2⟩ | ⟨g, cap, cur, h1, h3, h4, h5, h6, h7, h8⟩
  · have h3 := h.1
    rw [h2] at h3
    simp at h3
    rw [h1, h2]
    exact .inr ⟨h3, rfl, none, 0, rfl⟩
  · subst h1
    exact .inl ⟨_, cap, rfl, .inr ⟨g, 0, rfl, fun j u hu => by rw [Nat.zero_add]; exact own_cell h j u hu⟩⟩

theorem ints_reads (hh : HR O env w C sh) {s : SV A} {v : Value} {k : IntKind} {k' : Option IntKind} {ys : List Int} (h : intsOfS sh s = some (k', ys)) (hk : kindOk k' k = true) (hr : Rep O env w C s v) :
    Reads w v ys.length (ys.map (Value.int k)) := by
  have hkk : ∀ k2, k' = some k2 → k2 = k := by
    intro k2 e; subst e
    simp only [kindOk] at hk
    split at hk
    · assumption
    · cases hk
  unfold intsOfS at h
  split at h
  · cases h
    obtain ⟨ad, c, hv, _, _, h3⟩ := hr.inv_rints
    have := hkk _ rfl; subst this
    rw [hv]
    exact reads_of_ro h3 (fun e => by simpa using e)
  · split at h
    · rename_i hi
      cases h
      have := hkk _ rfl; subst this
      obtain ⟨u, hb, ho⟩ := hh.ivec hi
      rw [slAt_some hr.inv_vec hb]
      exact reads_of_own ho
    · cases h
  · rename_i i off n
    split at h
    · rename_i hi
      split at h
      · rename_i hrun
        split at h
        · rename_i hm
          cases h
          have := hkk _ rfl; subst this
          obtain ⟨b, vs, hb, hc, hrl⟩ := hh.cells hi
          obtain ⟨c, hv, _, _⟩ := blkAt_some hr.inv_asl hb
          obtain ⟨hl, pre, post, h1, h2, _⟩ := hrl.runAt hrun
          rw [hv, ← hm, ← hl]
          refine .inl ⟨_, c, rfl, .inr ⟨b, off, rfl, fun j u hu => ?_⟩⟩
          rw [cell_of_cells hc, h1, List.getElem?_append_right (by omega), h2, Nat.add_sub_cancel_left, List.getElem?_append_left (List.getElem?_eq_some_iff.1 hu).1]
          exact hu
        · cases h
      · cases h
    · cases h
  · cases h
    rw [hr.inv_val]
    exact .inr ⟨rfl, rfl, none, 0, rfl⟩
  · cases h

/-- An append to what the call owns. -/
theorem run_app {P : Program} {t ty e : TypeId} {i : TypeInfo} {z : Value} {size : Nat} (ht : P.underlying t = some (.slice e)) (hi : P.info? e = some i) (hz : i.zero = some z) (hsize : i.size = size) (hzs : z.cells.size = size) (hsz : 0 < size)
    {v : Value} {n : Nat} {xs : List Value} (hown : w.ownsRow 0 e size v n xs) {vx : Value} {m : Nat} {news : List Value} (hl : news.length = m * size) (hx : Reads w vx m news) (h1 : ∀ u ∈ news, u.oneCell' = true)
    (h63 : n + m ≤ 1152921504606846976) (hbytes : (n + m) * i.bytes ≤ 140737488355328) :
    ∃ v' w', (Builtin.append_ #[t, t] ty #[v, vx]).run P w = .ok v' w' ∧ w'.ownsRow 0 e size v' (n + m) (xs ++ news) ∧ w.grownBy w' v.ownBlock ∧ (v'.ownBlock = v.ownBlock ∨ v'.ownBlock = some w.heap.size) := by
  have hm0 : ∀ ad c, vx = .slice ad 0 c → m = 0 → news = [] → ∃ v' w', (Builtin.append_ #[t, t] ty #[v, vx]).run P w = .ok v' w' ∧ w'.ownsRow 0 e size v' (n + m) (xs ++ news) ∧ w.grownBy w' v.ownBlock ∧ (v'.ownBlock = v.ownBlock ∨ v'.ownBlock = some w.heap.size) := by
    intro ad c hv hm hn
    subst hm; subst hn; subst hv
    obtain ⟨ad2, c2, h2, h3, h4⟩ := own_len hown
    refine ⟨v, w, ?_, by simpa using hown, ⟨rfl, rfl, rfl, Nat.le_refl _, fun _ _ _ => rfl⟩, .inl rfl⟩
    subst h2
    simp only [Builtin.append_]
    cases ad <;> cases ad2 <;> simp [run_underlying ht, sizeOf, typeInfo, hi, Builtin.lenOf, h3, Builtin.firstCells, loadCells, loadCellsFrom, storeCells]
  rcases hx with ⟨ad, c, hv, h2⟩ | ⟨h2, h3, ad, c, hv⟩
  · rcases h2 with ⟨h3, h4, h5⟩ | ⟨b, o', h3, hc⟩
    · exact hm0 ad c (by rw [hv, h4]) h4 h5
    · subst hv; subst h3
      obtain ⟨v', w', h4, h5, h6, _, h7⟩ := run_append_own_at (P := P) w 0 t ty e i z size i.bytes ht hi hz hsize rfl hzs hsz v n xs hown ⟨b, o', none⟩ m c news hl (fun j u hu => by rw [Addr.add_lit]; exact hc j u hu) h1
        (by simp only [maxLen]; omega) hbytes (Nat.zero_le _)
      exact ⟨v', w', h4, h5, h6, h7⟩
  · exact hm0 ad c hv h3 h2

theorem pure_one : ∀ {s : SV A} {v : Value}, oneCell ([] : List (SO A)) s = true → Rep O env w C s v → v.oneCell' = true := by
  intro s v h1 h
  cases s
  case junk | undef | aptr | asl | rptr | vptr | agg | tup => simp [oneCell] at h1
  case ptr => simp [oneCell, alive, nth] at h1
  case vec => simp [oneCell, alive, nth] at h1
  case int => rw [h.inv_int]; rfl
  case lit => rw [h.inv_lit]; rfl
  case err => rcases h.inv_err with ⟨_, hv⟩ | ⟨_, hv⟩ <;> rw [hv] <;> rfl
  case bl => rw [h.inv_bl]; rfl
  case sb => rw [h.inv_sb]; rfl
  case val u => rw [h.inv_val]; cases u <;> first | rfl | simp [oneCell] at h1
  case rints => obtain ⟨_, _, hv, _⟩ := h.inv_rints; rw [hv]; rfl
  case rseq => obtain ⟨_, _, _, hv, _⟩ := h.inv_rseq; rw [hv]; rfl
  case iface => obtain ⟨_, hv, _⟩ := h.inv_iface; rw [hv]; rfl
  case fn => obtain ⟨_, _, hv, _⟩ := h.inv_fn; rw [hv]; rfl
theorem pure_cells : ∀ {cs : SL A} {vs : List Value}, storable ([] : List (SO A)) cs = true → RepL O env w C cs vs → ∀ u ∈ vs, u.oneCell' = true
  | .nil, _, _, h => by rw [h.inv_nil]; simp
  | .cell s r, _, hs, h => by
    obtain ⟨u, us, rfl, h1, h2⟩ := h.inv_cell
    simp only [storable] at hs
    split at hs
    case isFalse => cases hs
    rename_i hs1
    intro x hx
    rcases List.mem_cons.1 hx with e | hx
    · subst e; exact pure_one hs1 h1
    · exact pure_cells hs h2 x hx
  | .run k n xs r, _, hs, h => by
    obtain ⟨us, hn, rfl, hr⟩ := h.inv_run
    simp only [storable] at hs
    intro x hx
    rcases List.mem_append.1 hx with hx | hx
    · obtain ⟨y, _, rfl⟩ := List.mem_map.1 hx; rfl
    · exact pure_cells hs hr x hx

/-- The rows of elements. -/
def Rows (O : Nat → Prop) (env : List Wit) (w : World) (C : Enc A) (t : Nat) (xs : List (A t)) (vs : List Value) : Prop :=
  vs.length = xs.length * C.size t ∧ ∀ (j : Nat) (x : A t), xs[j]? = some x → RepL O env w C (C.enc t x) ((vs.drop (j * C.size t)).take (C.size t))

theorem Rows.step {env' : List Wit} {w' : World} (hs : Step env w env' w') {t : Nat} {xs : List (A t)} {vs : List Value} (h : Rows O env w C t xs vs) : Rows O env' w' C t xs vs :=
  ⟨h.1, fun j x hj => (h.2 j x hj).step hs⟩

theorem Rows.append {t : Nat} {xs ys : List (A t)} {us vs : List Value} (h : Rows O env w C t xs us) (k : Rows O env w C t ys vs) : Rows O env w C t (xs ++ ys) (us ++ vs) := by
  refine ⟨by simp [h.1, k.1, Nat.add_mul], fun j x hj => ?_⟩
  rcases Nat.lt_or_ge j xs.length with hl | hl
  · rw [List.getElem?_append_left hl] at hj
    have h1 := h.2 j x hj
    have h2 : j * C.size t + C.size t ≤ us.length := by rw [h.1, ← Nat.succ_mul]; exact Nat.mul_le_mul_right _ hl
    rw [List.drop_append_of_le_length (by omega), List.take_append_of_le_length (by simp; omega)]
    exact h1
  · rw [List.getElem?_append_right hl] at hj
    have h1 := k.2 _ x hj
    rw [List.drop_append, List.drop_of_length_le (by rw [h.1]; exact Nat.mul_le_mul_right _ hl), List.nil_append, h.1, ← Nat.sub_mul]
    exact h1

theorem Rows.one {t : Nat} {xs : List (A t)} {vs : List Value} (hC : ∀ y, storable ([] : List (SO A)) (C.enc t y) = true) (hsz : 0 < C.size t) (h : Rows O env w C t xs vs) : ∀ u ∈ vs, u.oneCell' = true := by
  intro u hu
  obtain ⟨p, hp, hpu⟩ := List.getElem_of_mem hu
  have hj : p / C.size t < xs.length := by
    rw [Nat.div_lt_iff_lt_mul hsz, ← h.1]; exact hp
  have hr := h.2 _ _ (List.getElem?_eq_getElem hj)
  refine pure_cells (hC _) hr u ?_
  have : ((vs.drop (p / C.size t * C.size t)).take (C.size t))[p % C.size t]? = some u := by
    rw [List.getElem?_take, if_pos (Nat.mod_lt _ hsz), List.getElem?_drop, Nat.div_add_mod' p (C.size t), List.getElem?_eq_getElem hp, hpu]
  exact List.mem_of_getElem? this

theorem castL_eq {t u : Nat} {xs : List (A t)} {ys : List (A u)} (h : castL u xs = some ys) : t = u ∧ HEq xs ys := by
  unfold castL at h
  split at h
  · rename_i e
    subst e
    cases h
    exact ⟨rfl, HEq.rfl⟩
  · cases h

theorem seq_reads (hh : HR O env w C sh) {t : Nat} (hsz : 0 < C.size t) {s : SV A} {v : Value} {ys : List (A t)} (h : seqOfS t sh s = some ys) (hr : Rep O env w C s v) : ∃ vs, Reads w v ys.length vs ∧ Rows O env w C t ys vs := by
  unfold seqOfS at h
  split at h
  · obtain ⟨e, h2⟩ := castL_eq h
    subst e
    have h2 := (eq_of_heq h2).symm
    subst h2
    obtain ⟨ad, c, vs, hv, _, _, h3, h4, h5⟩ := hr.inv_rseq
    rw [hv]
    refine ⟨vs, reads_of_ro h4 (fun e => ?_), h3, h5⟩
    rw [e] at h3
    simp only [List.length_nil] at h3
    rcases Nat.eq_zero_or_pos ys.length with h6 | h6
    · exact h6
    · have := Nat.mul_pos h6 hsz; omega
  · split at h
    · rename_i hi
      obtain ⟨e, h2⟩ := castL_eq h
      subst e
      have h2 := eq_of_heq h2
      subst h2
      obtain ⟨u, vs, hb, ho, hrows⟩ := hh.svec hi
      rw [slAt_some hr.inv_vec hb]
      exact ⟨vs, reads_of_own ho, ho.1, hrows⟩
    · cases h
  · cases h
    rw [hr.inv_val]
    exact ⟨[], .inr ⟨rfl, rfl, none, 0, rfl⟩, by simp, fun j x hj => by simp at hj⟩
  · cases h

theorem callee_builtin {c : Call} {b : Builtin} (hc : c.callee = .builtin b) (ho : o.op = .call c) {v : Value} {w' : World} {f : Array TypeId → TypeId → Array Value → Sem Value}
    (hb : ∀ at_ ty cs args, Go.builtin b at_ ty cs args = (do pure (Next.value (← f at_ ty args)))) (hrun : (f c.argTypes o.type (c.args.map a.eval)).run E.P w = .ok v w') : (execOp a.eval o).run E.P w = .ok (.value v) w' := by
  simp only [execOp, ho, resolve, hc]
  simp [Go.invoke, hb, hrun]

theorem app_all {t ty e : TypeId} {z : SL A} (hd : desc E.P t = .slice e) (hz : tyZero (A := A) E.P e = some z) (hzl : z.len = tsize E.P e) {size : Nat} (hs : tsize E.P e = size) (hsz : 0 < size)
    {v : Value} {n : Nat} {xs : List Value} (hown : w.ownsRow 0 e size v n xs) {vx : Value} {m : Nat} {news : List Value} (hl : news.length = m * size) (hx : Reads w vx m news) (h1 : ∀ u ∈ news, u.oneCell' = true)
    (h63 : n + m ≤ 1152921504606846976) (hbytes : (n + m) * tbytes E.P e ≤ 140737488355328) :
    ∃ v' w', (Builtin.append_ #[t, t] ty #[v, vx]).run E.P w = .ok v' w' ∧ w'.ownsRow 0 e size v' (n + m) (xs ++ news) ∧ w.grownBy w' v.ownBlock ∧ (v'.ownBlock = v.ownBlock ∨ v'.ownBlock = some w.heap.size) := by
  obtain ⟨i, zv, hi, hiz, hr⟩ := tyZero_spec hz
  have hu := under_of_desc hd (by simp)
  have his : i.size = size := by simpa [tsize, hi] using hs
  have hb : tbytes E.P e = i.bytes := by simp [tbytes, hi]
  have hzs : zv.cells.size = size := by
    have := (hr (fun _ => False) [] w (⟨fun _ _ => .nil, fun _ => 0⟩ : Enc A)).length
    rw [hzl, hs] at this
    simpa using this
  rw [hb] at hbytes
  exact run_app hu hi hiz his hzs hsz hown hl hx h1 h63 hbytes

/-- What a vector becomes. -/
theorem vec_next (h : HR O env w C sh) {i : Nat} {v v' : Value} {w' : World} (hb : env[i]? = some (.sl v)) (hg : w.grownBy w' v.ownBlock) (hat : v'.ownBlock = v.ownBlock ∨ v'.ownBlock = some w.heap.size)
    (hlt : ∀ b, v'.ownBlock = some b → b < w'.heap.size) (so : SO A) (hr : ∀ (_ : Step env w (env.set i .dead ++ [.sl v']) w'), ORep O (env.set i .dead ++ [.sl v']) w' C so (.sl v')) :
    HR O (env.set i .dead ++ [.sl v']) w' C (setNth sh i .dead ++ [so]) ∧ Step env w (env.set i .dead ++ [.sl v']) w' ∧ Rep O (env.set i .dead ++ [.sl v']) w' C (.vec (cnt (setNth sh i .dead)) : SV A) v' := by
  have hn := h.next i v.ownBlock hg (fun k hk => ⟨_, hb, hk⟩) (.sl v') (fun b hb' => by
    simp only [Wit.owns] at hb'
    rcases hat with e | e
    · rw [e] at hb'; exact .inl ⟨_, hb, hb'⟩
    · rw [e] at hb'; cases hb'; exact .inr (Nat.le_refl _)) (fun b hb' => hlt b hb') so hr
  refine ⟨by rw [setNth_eq]; exact hn.1, hn.2, .vec ?_⟩
  rw [cnt_eq, setNth_eq, List.length_set, h.len]
  unfold slAt
  rw [List.getElem?_append_right (by simp)]
  simp
theorem vec_push (h : HR O env w C sh) {v' : Value} {w' : World} (hg : w.grownBy w' none) (hat : v'.ownBlock = none ∨ v'.ownBlock = some w.heap.size)
    (hlt : ∀ b, v'.ownBlock = some b → b < w'.heap.size) (so : SO A) (hr : ∀ (_ : Step env w (env ++ [.sl v']) w'), ORep O (env ++ [.sl v']) w' C so (.sl v')) :
    HR O (env ++ [.sl v']) w' C (sh ++ [so]) ∧ Step env w (env ++ [.sl v']) w' ∧ Rep O (env ++ [.sl v']) w' C (.vec (cnt sh) : SV A) v' := by
  have hn := h.push hg (.sl v') (fun b hb' => by
    simp only [Wit.owns] at hb'
    rcases hat with e | e
    · rw [e] at hb'; cases hb'
    · rw [e] at hb'; cases hb'; exact Nat.le_refl _) (fun b hb' => hlt b hb') so hr
  refine ⟨hn.1, hn.2, .vec ?_⟩
  rw [cnt_eq, h.len]
  simp [slAt]

theorem own_lt {e : TypeId} {size n : Nat} {v : Value} {vs : List Value} (h : w.ownsRow 0 e size v n vs) : ∀ b, v.ownBlock = some b → b < w.heap.size := fun b hb => (h.lt b hb).2

theorem op_append {c : Call} {t : TypeId} {x y : Operand} (ho : o.op = .call c) (hc : c.callee = .builtin .append) (hat : c.argTypes = #[t, t]) (har : c.args = #[x, y]) (h : Rel E O ts sh env a w)
    (hk : appendS E t (evr E ts sh x) (evr E ts sh y) sh K) : OpOK E O o sh env a w K := by
  have hx := evr_rep h x
  have hy := evr_rep h y
  have key : ∀ (v : Value) (w' : World) (s : SV A) (sh' : List (SO A)) (env' : List Wit), (Builtin.append_ #[t, t] o.type #[a.eval x, a.eval y]).run E.P w = .ok v w' → Rep O env' w' E.C s v → HR O env' w' E.C sh' → Step env w env' w' → K s sh' → OpOK E O o sh env a w K := by
    intro v w' s sh' env' hrun hr hh hs hK
    exact opOK_of_run (callee_builtin hc ho (f := Builtin.append_) (fun _ _ _ _ => rfl) (by rw [hat, har]; simp only [List.map_toArray, List.map_cons, List.map_nil]; exact hrun)) hr hh hs (fun hq => by simp [quietOp, ho, hc] at hq) hK
  generalize evr E ts sh x = sx at hx hk
  generalize evr E ts sh y = sy at hy hk
  generalize a.eval x = vx at hx key
  generalize a.eval y = vy at hy key
  unfold appendS at hk
  split at hk
  case h_2 => exact hk.elim
  rename_i e hd
  split at hk
  · exact hk.elim
  · rename_i z hz
    split at hk
    case isFalse => exact hk.elim
    rename_i hzl
    split at hk
    · rename_i k hk0
      split at hk
      case isFalse => exact hk.elim
      rename_i hs1
      split at hk
      · rename_i k' ys hys
        split at hk
        case isFalse => exact hk.elim
        rename_i hkk
        have hrd := ints_reads h.heap hys hkk hy
        split at hk
        · rename_i i
          split at hk
          · rename_i e' k2 xs hi
            split at hk
            · rename_i he
              split at hk
              · rename_i hk2
                subst he; subst hk2
                obtain ⟨hb1, hb2, hK⟩ := hk
                obtain ⟨v, hb, hown⟩ := h.heap.ivec hi
                have hv := slAt_some hx.inv_vec hb
                subst hv
                obtain ⟨v', w', hrun, ho2, hg, hat2⟩ := app_all (ty := o.type) hd hz hzl hs1 (by omega) hown (by simp) hrd (by simp [Value.oneCell']) hb2 hb1
                obtain ⟨h3, h4, h5⟩ := vec_next h.heap hb hg hat2 (own_lt ho2) (.ivec e' k2 (xs ++ ys)) (fun _ => by
                  simp only [ORep, List.length_append, List.map_append]; exact ho2)
                rw [snoc_eq] at hK
                exact key _ _ _ _ _ hrun h5 h3 h4 hK
              · exact hk.elim
            · exact hk.elim
          · exact hk.elim
        · obtain ⟨hb1, hb2, hK⟩ := hk
          have hv := hx.inv_val
          subst hv
          obtain ⟨v', w', hrun, ho2, hg, hat2⟩ := app_all (ty := o.type) hd hz hzl hs1 (by omega) (World.ownsRow_nil w 0 e 1) (by simp) hrd (by simp [Value.oneCell']) (by omega) (by simpa using hb1)
          obtain ⟨h3, h4, h5⟩ := vec_push h.heap hg hat2 (own_lt ho2) (.ivec e k ys) (fun _ => by
            simp only [ORep]; simpa using ho2)
          rw [snoc_eq] at hK
          exact key _ _ _ _ _ hrun h5 h3 h4 hK
        · exact hk.elim
      · exact hk.elim
    · split at hk
      case isFalse => exact hk.elim
      rename_i hsz
      split at hk
      · exact hk.elim
      · rename_i hne
        split at hk
        · rename_i ys hys
          have hpos : 0 < E.C.size e := by omega
          obtain ⟨news, hrd, hrows⟩ := seq_reads h.heap hpos hys hy
          have hone := hrows.one (E.encOk e) hpos
          split at hk
          · rename_i i
            split at hk
            · rename_i e' xs' hi
              split at hk
              · rename_i xs hxs
                obtain ⟨he, h2⟩ := castL_eq hxs
                subst he
                have h2 := eq_of_heq h2
                subst h2
                obtain ⟨hb1, hb2, hK⟩ := hk
                obtain ⟨v, us, hb, hown, hus⟩ := h.heap.svec hi
                have hv := slAt_some hx.inv_vec hb
                subst hv
                obtain ⟨v', w', hrun, ho2, hg, hat2⟩ := app_all (ty := o.type) hd hz hzl hsz hpos hown hrows.1 hrd hone hb2 hb1
                obtain ⟨h3, h4, h5⟩ := vec_next h.heap hb hg hat2 (own_lt ho2) (.svec e' (xs' ++ ys)) (fun hs => by
                  refine ⟨us ++ news, by rw [List.length_append]; exact ho2, ?_⟩
                  exact ((Rows.append ⟨hown.1, hus⟩ hrows).step hs).2)
                rw [snoc_eq] at hK
                exact key _ _ _ _ _ hrun h5 h3 h4 hK
              · exact hk.elim
            · exact hk.elim
          · obtain ⟨hb1, hb2, hK⟩ := hk
            have hv := hx.inv_val
            subst hv
            obtain ⟨v', w', hrun, ho2, hg, hat2⟩ := app_all (ty := o.type) hd hz hzl hsz hpos (World.ownsRow_nil w 0 e _) hrows.1 hrd hone (by omega) (by simpa using hb1)
            obtain ⟨h3, h4, h5⟩ := vec_push h.heap hg hat2 (own_lt ho2) (.svec e ys) (fun hs => by
              refine ⟨news, by simpa using ho2, (hrows.step hs).2⟩)
            rw [snoc_eq] at hK
            exact key _ _ _ _ _ hrun h5 h3 h4 hK
          · exact hk.elim
        · exact hk.elim
end
end Go.Eng
