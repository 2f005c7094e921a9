/- The engine's operations are right: operators of two operands. Conditions: none. -/
import Derived.Test.YtcglahfmnoghjaaDoorE13
import Derived.Laws.StructEq
import Derived.ChangeKeysEq
namespace Go.Eng
open Go
variable {A : Nat → Type}

section
variable {E : Eng A} {O : Nat → Prop} {ts : List (SV A)} {sh : List (SO A)} {env : List Wit} {a : Act} {w : World} {o : Oper} {K : Pred A} {C : Enc A}

theorem run_guard_int {op : BinOp} {t : TypeId} {x y : Operand} {k k' : IntKind} {p q : Int} : (eqGuard op t x y (.int k p) (.int k' q)).run E.P w = .ok () w := by
  unfold eqGuard
  cases op <;> rfl

theorem eqItems_int {P : Program} {d : Nat} {e : TypeId} {k : IntKind} (he : P.underlying e = some (.int k)) (hsz : P.cellsOf e = 1) (hd : desc P e = .int k) :
    ∀ (is : List Nat) (xs ys : Array Value) (k' : IntKind) (ps qs : List Int), (∀ i ∈ is, ∃ p q, xs[i]? = some (.int k' p) ∧ ys[i]? = some (.int k' q) ∧ ps[i]? = some p ∧ qs[i]? = some q) →
      (Op.eqItems (d + 1) e 1 xs ys is).run P w = .ok (is.all fun i => ps[i]? == qs[i]?) w
  | [], _, _, _, _, _, _ => by simp [Op.eqItems]
  | i :: is, xs, ys, k', ps, qs, h => by
    obtain ⟨p, q, h1, h2, h3, h4⟩ := h i (List.mem_cons_self)
    have ih := eqItems_int (d := d) he hsz hd is xs ys k' ps qs (fun j hj => h j (List.mem_cons_of_mem _ hj))
    have hp : ∀ (zs : Array Value) (z : Value), zs[i]? = some z → (part e zs (i * 1)).run P w = .ok z w := by
      intro zs z hz
      simp only [part, Sem.run_bind, under_not (P := P) (t := e) (by simp [aggT, hd]) (by simp [hd]), Result.andThen_ok]
      simp [hz]
    simp only [Op.eqItems, Sem.run_bind, hp xs _ h1, hp ys _ h2, Result.andThen_ok, run_equalIn_int w d e k' k p q he]
    cases hpq : (p == q)
    · simp only [Bool.not_false, if_true, Sem.run_pure, List.all_cons, h3, h4]
      have : ((some p == some q) = false) := by simpa using hpq
      simp [this]
    · simp only [Bool.not_true, Bool.false_eq_true, if_false, ih, List.all_cons, h3, h4]
      have : ((some p == some q) = true) := by simpa using hpq
      simp [this]

theorem all_range_beq {n : Nat} {ps qs : List Int} (h1 : ps.length = n) (h2 : qs.length = n) : ((List.range n).all fun i => ps[i]? == qs[i]?) = (ps == qs) := by
  rw [Bool.eq_iff_iff]
  simp only [List.all_eq_true, List.mem_range, beq_iff_eq]
  constructor
  · intro h
    apply List.ext_getElem? 
    intro i
    by_cases hi : i < n
    · exact h i hi
    · rw [List.getElem?_eq_none (by omega), List.getElem?_eq_none (by omega)]
  · intro h i _; rw [h]

theorem cellsOf_eq {P : Program} {t : TypeId} {n : Nat} (h : tsize P t = n) (hn : n ≠ 0) : P.cellsOf t = n := by
  obtain ⟨i, hi, hs⟩ := info_of_tsize h hn
  simp [Program.cellsOf, hi, hs]

/-- Equality of integers, of arrays of integers. -/
theorem run_eq1 {t : TypeId} {x y : SV A} {b : Bool} {vx vy : Value} (d : Nat) (h : eq1 E.P t x y = some b) (hx : Rep O env w C x vx) (hy : Rep O env w C y vy) (w' : World) :
    (Op.equalIn (d + 2) t vx vy).run E.P w' = .ok b w' := by
  unfold eq1 at h
  split at h
  · rename_i k0 hd
    split at h
    · rename_i k p l k' q m h1 h2
      split at h
      · rename_i hk
        subst hk
        cases h
        rw [rep_asInt h1 hx, rep_asInt h2 hy]
        exact run_equalIn_int w' (d + 1) t k k0 p q (under_of_desc hd (by simp))
      · cases h
    · cases h
  · rename_i n e hd
    split at h
    · rename_i k0 hde
      split at h
      · rename_i hsz
        split at h
        · rename_i k m xs k' m' ys
          split at h
          · rename_i hk
            split at h
            · rename_i hm
              split at h
              · rename_i hm'
                cases h
                subst hk; subst hm; subst hm'
                obtain ⟨us, rfl, hr⟩ := hx.inv_agg
                obtain ⟨vs, rfl, hs⟩ := hy.inv_agg
                obtain ⟨us', h1, rfl, h2⟩ := hr.inv_run
                obtain ⟨vs', h3, rfl, h4⟩ := hs.inv_run
                rw [h2.inv_nil, h4.inv_nil, List.append_nil, List.append_nil]
                obtain ⟨i, hi, his⟩ := info_of_tsize (P := E.P) (t := e) hsz (by omega)
                have hc1 := cellsOf_eq (P := E.P) hsz (by omega)
                rw [run_equalIn_array w' (d + 1) _ _ (under_of_desc hd (by simp)) hi, hc1]
                rw [eqItems_int (d := d) (k := k0) (under_of_desc hde (by simp)) hc1 hde (List.range _) _ _ k xs ys (fun i hi => by
                  have hi := List.mem_range.1 hi
                  exact ⟨xs[i]'(by omega), ys[i]'(by omega), by simp [h1, hi], by simp [h3, hi], by simp [h1, hi], by simp [h3, hi]⟩)]
                rw [all_range_beq h1 h3]
              · cases h
            · cases h
          · cases h
        · cases h
      · cases h
    · cases h
  · cases h

theorem run_eqFs {P' : Program} {x y : SL A} {us vs : List Value} (hP : P' = E.P) (d : Nat) (hx : RepL O env w E.C x us) (hy : RepL O env w E.C y vs) (w' : World) : ∀ {fs : List Field} {b : Bool}, eqFs E.P x y fs = some b →
    (Op.eqFields (d + 2) us.toArray vs.toArray fs).run E.P w' = .ok b w'
  | [], b, h => by simp [eqFs] at h; simp [Op.eqFields, h]
  | f :: fs, b, h => by
    simp only [eqFs] at h
    split at h
    · cases h
    · rename_i hn
      split at h
      · rename_i hok
        split at h
        · rename_i p q hp hq
          split at h
          · rename_i r s hr hs
            cases h
            obtain ⟨v1, h1, h2⟩ := run_part hok hx hp
            obtain ⟨v2, h3, h4⟩ := run_part hok hy hq
            have h5 := run_eq1 (E := E) (w := w) d hr h2 h4 w'
            have h6 := run_eqFs hP d hx hy w' hs
            rw [Op.eqFields]
            simp only [ne_eq, hn, not_false_eq_true, if_true, Sem.run_bind, h1, h3, h5, Result.andThen_ok]
            cases r
            · simp
            · simpa using h6
          · cases h
        · cases h
      · cases h

section
variable {P : Program} {d : Nat} {t : TypeId} {ms : Array (String × TypeId)}
theorem eqn_nil_nil (hu : P.underlying t = some (.interface ms)) : (Op.equalIn (d + 1) t .nilIface .nilIface).run P w = .ok true w := by
  simp [Op.equalIn, run_underlying hu]
theorem eqn_nil_some (hu : P.underlying t = some (.interface ms)) (t1 : TypeId) (u : Value) : (Op.equalIn (d + 1) t .nilIface (.iface t1 u)).run P w = .ok false w := by
  simp [Op.equalIn, run_underlying hu]
theorem eqn_some_nil (hu : P.underlying t = some (.interface ms)) (t1 : TypeId) (u : Value) : (Op.equalIn (d + 1) t (.iface t1 u) .nilIface).run P w = .ok false w := by
  simp [Op.equalIn, run_underlying hu]
theorem eqn_some_ne (hu : P.underlying t = some (.interface ms)) {t1 t2 : TypeId} (u v : Value) (h : ¬ t1 = t2) : (Op.equalIn (d + 1) t (.iface t1 u) (.iface t2 v)).run P w = .ok false w := by
  simp [Op.equalIn, run_underlying hu, h]
theorem eqn_some_int (hu : P.underlying t = some (.interface ms)) {t1 : TypeId} {k k0 : IntKind} {i : TypeInfo} (p q : Int) (hu1 : P.underlying t1 = some (.int k0)) (hi : P.info? t1 = some i) (hc : i.comparable = true) :
    (Op.equalIn (d + 2) t (.iface t1 (.int k p)) (.iface t1 (.int k q))).run P w = .ok (p == q) w := by
  simp [Op.equalIn, run_underlying hu, run_underlying hu1, typeInfo, hi, hc]
theorem eqn_ptr_nil {e : TypeId} (hu : P.underlying t = some (.pointer e)) : (Op.equalIn (d + 1) t (.pointer none) (.pointer none)).run P w = .ok true w := by
  simp [Op.equalIn, run_underlying hu]
theorem eqn_ptr_some {e : TypeId} (hu : P.underlying t = some (.pointer e)) (ad : Addr) : (Op.equalIn (d + 1) t (.pointer (some ad)) (.pointer none)).run P w = .ok false w := by
  simp [Op.equalIn, run_underlying hu]
theorem eqn_ptr_some' {e : TypeId} (hu : P.underlying t = some (.pointer e)) (ad : Addr) : (Op.equalIn (d + 1) t (.pointer none) (.pointer (some ad))).run P w = .ok false w := by
  simp [Op.equalIn, run_underlying hu]
end

theorem eq_fin {t : TypeId} {x y : Operand} {b : Bool} (vx vy : Value) (op : BinOp) (hop : op = .eql ∨ op = .neq) (h1 : (eqGuard op t x y vx vy).run E.P w = .ok () w) (h2 : (Op.equalIn 10000 t vx vy).run E.P w = .ok b w)
    (h3 : ∀ op', op' = .eql ∨ op' = .neq → Go.binOp op' t vx vy = (if op' = .eql then (do pure (.bool (← Op.equal t vx vy))) else (do pure (.bool (!(← Op.equal t vx vy)))))) :
    (do eqGuard op t x y vx vy; Go.binOp op t vx vy : Sem Value).run E.P w = .ok (.bool (if op = .eql then b else !b)) w := by
  rw [Sem.run_bind, h1, Result.andThen_ok, h3 op hop]
  rcases hop with rfl | rfl
  · simp only [Op.equal, Op.maxDepth, if_true, Sem.run_bind]
    rw [h2]; rfl
  · simp only [Op.equal, Op.maxDepth, if_neg (show ¬ (BinOp.neq = BinOp.eql) by decide), Sem.run_bind]
    rw [h2]; rfl

theorem guard_nil {P : Program} {w : World} {t : TypeId} {x y : Operand} {op : BinOp} (hop : op = .eql ∨ op = .neq) (hc : (isConst x || isConst y) = true) : (eqGuard op t x y .nilIface .nilIface).run P w = .ok () w := by
  have hcst : ∀ (z : Operand), isConst z = true → ∃ c, z = .const c := by intro z hz; cases z <;> simp [isConst] at hz; exact ⟨_, rfl⟩
  simp only [Bool.or_eq_true] at hc
  rcases hc with hc | hc
  · obtain ⟨c, rfl⟩ := hcst _ hc
    unfold eqGuard; rcases hop with rfl | rfl <;> simp
  · obtain ⟨c, rfl⟩ := hcst _ hc
    unfold eqGuard; rcases hop with rfl | rfl <;> simp

/-- What '==' comes to. -/
theorem run_eqlS {t : TypeId} {x y : Operand} {sx sy : SV A} {b : Bool} {vx vy : Value} (h : eqlS E t (isConst x || isConst y) sx sy = some b) (hx : Rep O env w E.C sx vx) (hy : Rep O env w E.C sy vy) (op : BinOp) (hop : op = .eql ∨ op = .neq) (w' : World) :
    (do eqGuard op t x y vx vy; Go.binOp op t vx vy : Sem Value).run E.P w' = .ok (.bool (if op = .eql then b else !b)) w' := by
  have fin := fun (vx vy : Value) h1 h2 h3 => eq_fin (E := E) (w := w') (t := t) (x := x) (y := y) (b := b) vx vy op hop h1 h2 h3
  unfold eqlS at h
  split at h
  · rename_i hd
    have hu := under_of_desc hd (by simp)
    split at h
    · rename_i p q hp hq
      cases h
      rw [rep_asBool hp hx, rep_asBool hq hy]
      refine fin _ _ (by unfold eqGuard; rcases hop with rfl | rfl <;> rfl) (run_equalIn_bool w' 9999 t p q hu) (fun op' h => ?_)
      rcases h with rfl | rfl <;> rfl
    · cases h
  · rename_i ms hd
    have hu := under_of_desc hd (by simp)
    split at h
    · split at h
      · rename_i hc
        cases h
        rw [hx.inv_val, hy.inv_val]
        exact fin _ _ (guard_nil hop hc) (eqn_nil_nil (d := 9999) hu) (fun op' h => by rcases h with rfl | rfl <;> rfl)
      · cases h
    · cases h
      obtain ⟨u, rfl, _⟩ := hy.inv_iface
      rw [hx.inv_val]
      exact fin _ _ (by unfold eqGuard; rcases hop with rfl | rfl <;> rfl) (eqn_nil_some (d := 9999) hu _ _) (fun op' h => by rcases h with rfl | rfl <;> rfl)
    · cases h
      obtain ⟨u, rfl, _⟩ := hx.inv_iface
      rw [hy.inv_val]
      exact fin _ _ (by unfold eqGuard; rcases hop with rfl | rfl <;> rfl) (eqn_some_nil (d := 9999) hu _ _) (fun op' h => by rcases h with rfl | rfl <;> rfl)
    · split at h
      · rename_i hc
        cases h
        rw [hy.inv_val]
        rcases hx.inv_err with ⟨hn, rfl⟩ | ⟨hn, rfl⟩
        · have := fin .nilIface .nilIface (guard_nil hop hc) 
          subst hn
          exact this (eqn_nil_nil (d := 9999) hu) (fun op' h => by rcases h with rfl | rfl <;> rfl)
        · refine fin _ _ (by unfold eqGuard; rcases hop with rfl | rfl <;> rfl) ?_ (fun op' h => by rcases h with rfl | rfl <;> rfl)
          rw [eqn_some_nil (d := 9999) hu, show ∀ n : Int, n ≠ 0 → (n == 0) = false from fun n h => by simpa using h]
          exact hn
      · cases h
    · split at h
      · rename_i hc
        cases h
        rw [hx.inv_val]
        rcases hy.inv_err with ⟨hn, rfl⟩ | ⟨hn, rfl⟩
        · have := fin .nilIface .nilIface (guard_nil hop hc) 
          subst hn
          exact this (eqn_nil_nil (d := 9999) hu) (fun op' h => by rcases h with rfl | rfl <;> rfl)
        · refine fin _ _ (by unfold eqGuard; rcases hop with rfl | rfl <;> rfl) ?_ (fun op' h => by rcases h with rfl | rfl <;> rfl)
          rw [eqn_nil_some (d := 9999) hu, show ∀ n : Int, n ≠ 0 → (n == 0) = false from fun n h => by simpa using h]
          exact hn
      · cases h
    · rename_i t1 v t2 u
      obtain ⟨vx', rfl, h1⟩ := hx.inv_iface
      obtain ⟨vy', rfl, h2⟩ := hy.inv_iface
      split at h
      · rename_i k p l k' q m hp hq
        rw [rep_asInt hp h1, rep_asInt hq h2]
        split at h
        · rename_i ht
          subst ht
          split at h
          · rename_i hk
            subst hk
            split at h
            · rename_i hc
              split at h
              · rename_i k0 hd1
                cases h
                have hu1 := under_of_desc hd1 (by simp)
                unfold cmpT at hc
                split at hc
                · rename_i i hi
                  exact fin _ _ (by unfold eqGuard; rcases hop with rfl | rfl <;> rfl) (eqn_some_int (d := 9998) hu _ _ hu1 hi hc) (fun op' h => by rcases h with rfl | rfl <;> rfl)
                · cases hc
              · cases h
            · cases h
          · cases h
        · rename_i ht
          cases h
          refine fin _ _ (by unfold eqGuard; rcases hop with rfl | rfl <;> rfl) (eqn_some_ne (d := 9999) hu _ _ ht) (fun op' h => by rcases h with rfl | rfl <;> rfl)
      · cases h
    · cases h
  · rename_i e hd
    have hu := under_of_desc hd (by simp)
    split at h
    · cases h
      rw [hx.inv_val, hy.inv_val]
      refine fin _ _ (by unfold eqGuard; rcases hop with rfl | rfl <;> rfl) (eqn_ptr_nil (d := 9999) hu) (fun op' h => by rcases h with rfl | rfl <;> rfl)
    · cases h
  · rename_i n e hd
    split at h
    · rename_i hok
      have hag : ∃ us vs, vx = .agg us ∧ vy = .agg vs := by
        unfold eq1 at h
        rw [hd] at h
        simp only at h
        split at h
        · split at h
          · split at h
            · obtain ⟨us, h1, _⟩ := hx.inv_agg
              obtain ⟨vs, h2, _⟩ := hy.inv_agg
              exact ⟨_, _, h1, h2⟩
            · cases h
          · cases h
        · cases h
      have h2 := run_eq1 (E := E) (w := w) 9998 h hx hy w'
      obtain ⟨us, vs, rfl, rfl⟩ := hag
      refine fin _ _ (run_eqGuard_agg w' op t x y us vs (E.eqOk t hok).2) h2 (fun op' h => by rcases h with rfl | rfl <;> rfl)
    · cases h
  · rename_i fs hd
    split at h
    · rename_i hok
      split at h
      · rename_i p q
        obtain ⟨us, rfl, h1⟩ := hx.inv_agg
        obtain ⟨vs, rfl, h2⟩ := hy.inv_agg
        have hu := under_of_desc hd (by simp)
        have hf : E.P.fieldsOf t = fs := by simp [Program.fieldsOf, hu]
        have h3 := run_eqFs (E := E) (w := w) rfl 9997 h1 h2 w' h
        refine fin _ _ (run_eqGuard_agg w' op t x y _ _ (E.eqOk t hok).2) ?_ (fun op' h => by rcases h with rfl | rfl <;> rfl)
        rw [run_equalIn_struct w' 9999 t _ _ (by rw [hf]; exact hu) (E.eqOk t hok).1, hf]
        exact h3
      · cases h
    · cases h
  · cases h

theorem run_ptrNil {t : TypeId} {x y : Operand} {sx sy : SV A} {vx vy : Value} (hh : HR O env w E.C sh) (h : ptrNil E t sh sx sy = true) (hx : Rep O env w E.C sx vx) (hy : Rep O env w E.C sy vy) (op : BinOp) (hop : op = .eql ∨ op = .neq) (w' : World) :
    (do eqGuard op t x y vx vy; Go.binOp op t vx vy : Sem Value).run E.P w' = .ok (.bool (if op = .eql then false else !false)) w' := by
  unfold ptrNil at h
  split at h
  · rename_i e hd
    have hu := under_of_desc hd (by simp)
    split at h
    · obtain ⟨b, _, hv⟩ := live_ptr hh h hx.inv_ptr
      rw [hv, hy.inv_val]
      exact eq_fin (b := false) _ _ op hop (by unfold eqGuard; rcases hop with rfl | rfl <;> rfl) (eqn_ptr_some (d := 9999) hu _) (fun op' h => by rcases h with rfl | rfl <;> rfl)
    · obtain ⟨b, _, hv⟩ := live_ptr hh h hy.inv_ptr
      rw [hv, hx.inv_val]
      exact eq_fin (b := false) _ _ op hop (by unfold eqGuard; rcases hop with rfl | rfl <;> rfl) (eqn_ptr_some' (d := 9999) hu _) (fun op' h => by rcases h with rfl | rfl <;> rfl)
    · cases h
  · cases h

theorem eqn_slice {P : Program} {w : World} {d : Nat} {t e : TypeId} (hu : P.underlying t = some (.slice e)) (a : Option Addr) (n c : Nat) : (Op.equalIn (d + 1) t (.slice a n c) (.slice none 0 0)).run P w = .ok a.isNone w := by
  cases a <;> simp [Op.equalIn, run_underlying hu]
theorem ROat_some {A : Option Addr} {vs : List Value} (h : ROat O env w A vs) (hne : vs ≠ []) : A.isNone = false := by
  rcases h with h | ⟨b, o, h, _⟩
  · exact absurd h hne
  · rw [h]; rfl
theorem run_slNil {t : TypeId} {x y : Operand} {sx sy : SV A} {vx vy : Value} {Pb : Bool → Prop} (hh : HR O env w E.C sh) (h : slNil E t sh sx sy = some Pb) (hx : Rep O env w E.C sx vx) (hy : Rep O env w E.C sy vy) (op : BinOp) (hop : op = .eql ∨ op = .neq) :
    ∃ b, Pb b ∧ ∀ w', (do eqGuard op t x y vx vy; Go.binOp op t vx vy : Sem Value).run E.P w' = .ok (.bool (if op = .eql then b else !b)) w' := by
  unfold slNil at h
  split at h
  case h_2 => cases h
  rename_i e hd
  have hu := under_of_desc hd (by simp)
  split at h
  case h_2 => cases h
  rw [hy.inv_val]
  have fin : ∀ (a : Option Addr) (n c : Nat), vx = .slice a n c → ∀ w', (do eqGuard op t x y vx (.slice none 0 0); Go.binOp op t vx (.slice none 0 0) : Sem Value).run E.P w' = .ok (.bool (if op = .eql then a.isNone else !a.isNone)) w' := by
    intro a n c hv w'
    rw [hv]
    exact eq_fin _ _ op hop (by unfold eqGuard; rcases hop with rfl | rfl <;> rfl) (eqn_slice (d := 9999) hu a n c) (fun op' h => by rcases h with rfl | rfl <;> rfl)
  split at h
  · rename_i k xs
    cases h
    obtain ⟨a, c, hv, _, _, hro⟩ := hx.inv_rints
    exact ⟨a.isNone, fun hne => ROat_some hro (by simpa using hne), fin _ _ _ hv⟩
  · rename_i u xs
    split at h
    · cases h
    rename_i hz
    cases h
    obtain ⟨a, c, vs, hv, _, _, h3, hro, hxs⟩ := hx.inv_rseq
    refine ⟨a.isNone, fun hne => ROat_some hro (fun e => ?_), fin _ _ _ hv⟩
    rw [e] at h3
    have h4 : 0 < xs.length := List.length_pos_iff.2 hne
    have h5 : 0 < E.C.size u := Nat.pos_of_ne_zero hz
    have h6 : 0 < xs.length * E.C.size u := Nat.mul_pos h4 h5
    simp at h3
    omega
  · rename_i i
    have hv0 := hx.inv_vec
    split at h
    · rename_i e' k xs hi
      cases h
      obtain ⟨u, hu', hown⟩ := hh.ivec hi
      have hv := slAt_some hv0 hu'
      rcases hown.2 with ⟨h1, h2⟩ | ⟨g, cap, cur, h1, _⟩
      · exact ⟨true, fun hne => absurd (List.eq_nil_of_length_eq_zero h2) hne, fin none 0 0 (hv.trans h1)⟩
      · exact ⟨false, fun _ => rfl, fin _ _ _ (hv.trans h1)⟩
    · rename_i e' xs hi
      cases h
      obtain ⟨u, _, hu', hown, _⟩ := hh.svec hi
      have hv := slAt_some hv0 hu'
      rcases hown.2 with ⟨h1, h2⟩ | ⟨g, cap, cur, h1, _⟩
      · exact ⟨true, fun hne => absurd (List.eq_nil_of_length_eq_zero h2) hne, fin none 0 0 (hv.trans h1)⟩
      · exact ⟨false, fun _ => rfl, fin _ _ _ (hv.trans h1)⟩
    · cases h
  · cases h
    exact ⟨true, rfl, fin none 0 0 hx.inv_val⟩
  · cases h

theorem op_binOp {op : BinOp} {t t' : TypeId} {x y : Operand} (ho : o.op = .binOp op t x y t') (h : Rel E O ts sh env a w) (hk : binS E op t (isConst x || isConst y) sh (evr E ts sh x) (evr E ts sh y) fun v => K v sh) : OpY E O o sh env a w K := by
  have hx := evr_rep h x
  have hy := evr_rep h y
  have key : ∀ (v : Value) (s : SV A), (∀ w', (do eqGuard op t x y (a.eval x) (a.eval y); Go.binOp op t (a.eval x) (a.eval y) : Sem Value).run E.P w' = .ok v w') → Rep O env w E.C s v → K s sh → OpY E O o sh env a w K := by
    intro v s hrun hr hK
    refine opY_same (v := v) (fun w' => ?_) hr hK
    simp only [execOp, ho]
    rw [Sem.run_bind, hrun]
    rfl
  unfold binS at hk
  split at hk
  · rename_i k p l k' q m hp hq
    rw [rep_asInt hp hx, rep_asInt hq hy] at key
    split at hk
    · exact key _ _ (fun w' => by rw [Sem.run_bind, run_guard_int, Result.andThen_ok]; simp [Go.binOp, Op.shift, Int.not_lt.2 hk.1]; rfl) rep_mkInt hk.2
    · exact key _ _ (fun w' => by rw [Sem.run_bind, run_guard_int, Result.andThen_ok]; simp [Go.binOp, Op.shift, Int.not_lt.2 hk.1]; rfl) rep_mkInt hk.2
    · split at hk
      · rename_i hkk
        subst hkk
        obtain ⟨v, s, h1, h2, h3⟩ := run_intBin (E := E) (O := O) (env := env) (w := w) op t k p q _ _ hk E.C
        exact key v s (fun w' => by rw [Sem.run_bind, run_guard_int, Result.andThen_ok, h1]) h2 h3
      · exact hk.elim
  · split at hk
    · split at hk
      · rename_i hp
        exact key _ _ (run_ptrNil h.heap hp hx hy .eql (.inl rfl)) .bl hk
      · split at hk
        · rename_i Pb hb
          obtain ⟨b, h1, h2⟩ := run_slNil h.heap hb hx hy .eql (.inl rfl)
          exact key _ _ h2 .sb (hk b h1)
        · split at hk
          · rename_i b hb
            exact key _ _ (run_eqlS hb hx hy .eql (.inl rfl)) .sb hk
          · exact hk.elim
    · split at hk
      · rename_i hp
        exact key _ _ (run_ptrNil h.heap hp hx hy .neq (.inr rfl)) .bl hk
      · split at hk
        · rename_i Pb hb
          obtain ⟨b, h1, h2⟩ := run_slNil h.heap hb hx hy .neq (.inr rfl)
          exact key _ _ h2 .sb (hk b h1)
        · split at hk
          · rename_i b hb
            exact key _ _ (run_eqlS hb hx hy .neq (.inr rfl)) .sb hk
          · exact hk.elim
    · exact hk.elim
end
end Go.Eng
