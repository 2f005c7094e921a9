/- The engine's operations are right: places in rows, slices, heaps that go on. Conditions: none. -/
import Derived.Test.YtcglahfmnoghjaaDoorE11
namespace Go.Eng
open Go
variable {A : Nat → Type}

section
variable {O : Nat → Prop} {env : List Wit} {w w' : World} {C : Enc A} {sh : List (SO A)}

theorem get_set_dead {i j : Nat} {x : Wit} (h : (env.set i .dead)[j]? = some x) : (j = i ∧ x = .dead) ∨ (j ≠ i ∧ env[j]? = some x) := by
  by_cases e : i = j
  · subst e
    have hl : i < env.length := by have := (List.getElem?_eq_some_iff.1 h).1; simpa using this
    rw [List.getElem?_set_self hl] at h
    cases h; exact .inl ⟨rfl, rfl⟩
  · rw [List.getElem?_set_ne e] at h
    exact .inr ⟨fun e' => e e'.symm, h⟩

theorem owned_set_dead {i b : Nat} (h : owned (env.set i .dead) b) : owned env b := by
  obtain ⟨j, x, hj, ho⟩ := h
  rcases get_set_dead hj with ⟨_, rfl⟩ | ⟨_, h1⟩
  · exact ho.elim
  · exact ⟨j, x, h1, ho⟩

theorem Step.kill (i : Nat) : Step env w (env.set i .dead) w := by
  refine ⟨rfl, rfl, rfl, Nat.le_refl _, by simp, fun j x hj => ?_, fun b hb => .inl (owned_set_dead hb), fun _ _ _ => rfl⟩
  by_cases e : i = j
  · subst e
    have hl : i < env.length := (List.getElem?_eq_some_iff.1 hj).1
    rw [List.getElem?_set_self hl]; exact ⟨_, rfl, .inr (.inl rfl)⟩
  · rw [List.getElem?_set_ne e]; exact ⟨_, hj, .refl _⟩

theorem HR.kill (h : HR O env w C sh) (i : Nat) : HR O (env.set i .dead) w C (sh.set i .dead) where
  len := by simp [h.len]
  rep := fun j so x h1 h2 => by
    rcases get_set_dead h2 with ⟨rfl, rfl⟩ | ⟨hne, h3⟩
    · have hl : j < sh.length := by have := (List.getElem?_eq_some_iff.1 h1).1; simpa using this
      rw [List.getElem?_set_self hl] at h1
      cases h1; rfl
    · rw [List.getElem?_set_ne (Ne.symm hne)] at h1
      exact (h.rep j so x h1 h3).step (Step.kill i) (fun _ _ => rfl)
  disj := fun p q x y b h1 h2 hx hy => by
    rcases get_set_dead h1 with ⟨_, rfl⟩ | ⟨_, h1⟩
    · exact hx.elim
    · rcases get_set_dead h2 with ⟨_, rfl⟩ | ⟨_, h2⟩
      · exact hy.elim
      · exact h.disj p q x y b h1 h2 hx hy
  out := fun b hb => h.out b (owned_set_dead hb)
  lt := fun b hb => h.lt b (owned_set_dead hb)
  olt := h.olt

/-- Behind an entry that is done with comes another one, whose memory is that one's, or new. -/
theorem HR.next (h : HR O env w C sh) (i : Nat) (row : Option Nat) (hg : w.grownBy w' row) (hrow : ∀ k, row = some k → ∃ x, env[i]? = some x ∧ x.owns k)
    (x' : Wit) (hown : ∀ b, x'.owns b → (∃ x, env[i]? = some x ∧ x.owns b) ∨ w.heap.size ≤ b) (hlt : ∀ b, x'.owns b → b < w'.heap.size) (so' : SO A)
    (hr : ∀ (_hs : Step env w (env.set i .dead ++ [x']) w'), ORep O (env.set i .dead ++ [x']) w' C so' x') :
    HR O (env.set i .dead ++ [x']) w' C (sh.set i .dead ++ [so']) ∧ Step env w (env.set i .dead ++ [x']) w' := by
  have hsub : ∀ b, owned (env.set i .dead ++ [x']) b → owned env b ∨ w.heap.size ≤ b := fun b hb => by
    rcases owned_snoc.1 hb with h1 | h1
    · exact .inl (owned_set_dead h1)
    · rcases hown b h1 with ⟨x, h2, h3⟩ | h2
      · exact .inl ⟨i, x, h2, h3⟩
      · exact .inr h2
  have hs : Step env w (env.set i .dead ++ [x']) w' := by
    refine ⟨hg.os, hg.tape, hg.output, hg.size, by simp, fun j x hj => ?_, hsub, fun b hb hn => hg.block b hb (fun e => ?_)⟩
    · have hl : j < env.length := (List.getElem?_eq_some_iff.1 hj).1
      rw [List.getElem?_append_left (by simpa using hl)]
      exact (Step.kill (w := w) i).keep j x hj
    · obtain ⟨x, h1, h2⟩ := hrow b e.symm
      exact hn ⟨i, x, h1, h2⟩
  refine ⟨⟨by simp [h.len], ?_, ?_, ?_, ?_, ?_⟩, hs⟩
  · intro j so x h1 h2
    rcases Nat.lt_or_ge j env.length with hj | hj
    · rw [List.getElem?_append_left (by simp [h.len]; exact hj)] at h1
      rw [List.getElem?_append_left (by simpa using hj)] at h2
      rcases get_set_dead h2 with ⟨rfl, rfl⟩ | ⟨hne, h3⟩
      · rw [List.getElem?_set_self (by rw [h.len]; exact hj)] at h1
        cases h1; rfl
      · rw [List.getElem?_set_ne (Ne.symm hne)] at h1
        refine (h.rep j so x h1 h3).step hs (fun b hb => hg.block b (h.lt b ⟨j, x, h3, hb⟩) (fun e => ?_))
        obtain ⟨y, h4, h5⟩ := hrow b e.symm
        exact hne (h.disj j i x y b h3 h4 hb h5)
    · rw [List.getElem?_append_right (by simp [h.len]; exact hj)] at h1
      rw [List.getElem?_append_right (by simpa using hj)] at h2
      simp only [List.length_set, h.len] at h1 h2
      cases hj' : j - env.length with
      | zero => rw [hj'] at h1 h2; simp at h1 h2; subst h1; subst h2; exact hr hs
      | succ n => rw [hj'] at h1; simp at h1
  · intro p q x y b hx hy hxb hyb
    have key : ∀ (p : Nat) x, (env.set i Wit.dead ++ [x'])[p]? = some x → x.owns b → (p < env.length ∧ p ≠ i ∧ env[p]? = some x) ∨ (p = env.length ∧ x'.owns b) := by
      intro p x hx hb
      rcases Nat.lt_or_ge p env.length with hp | hp
      · rw [List.getElem?_append_left (by simpa using hp)] at hx
        rcases get_set_dead hx with ⟨rfl, rfl⟩ | ⟨hne, h3⟩
        · exact hb.elim
        · exact .inl ⟨hp, hne, h3⟩
      · rw [List.getElem?_append_right (by simpa using hp)] at hx
        simp only [List.length_set] at hx
        cases hj : p - env.length with
        | zero => rw [hj] at hx; simp at hx; subst hx; exact .inr ⟨by omega, hb⟩
        | succ n => rw [hj] at hx; simp at hx
    have key2 : ∀ (p : Nat) x, p ≠ i → env[p]? = some x → x.owns b → x'.owns b → False := by
      intro p x hne h1 h2 h3
      rcases hown b h3 with ⟨y, h4, h5⟩ | h4
      · exact hne (h.disj p i x y b h1 h4 h2 h5)
      · have := h.lt b ⟨p, x, h1, h2⟩; omega
    rcases key p x hx hxb with ⟨_, h1, h2⟩ | ⟨h1, h2⟩ <;> rcases key q y hy hyb with ⟨_, h3, h4⟩ | ⟨h3, h4⟩
    · exact h.disj p q x y b h2 h4 hxb hyb
    · exact (key2 p x h1 h2 hxb h4).elim
    · exact (key2 q y h3 h4 hyb h2).elim
    · omega
  · intro b hb hO
    rcases hsub b hb with h1 | h1
    · exact h.out b h1 hO
    · have := h.olt b hO; omega
  · intro b hb
    rcases owned_snoc.1 hb with h1 | h1
    · exact Nat.lt_of_lt_of_le (h.lt b (owned_set_dead h1)) hg.size
    · exact hlt b h1
  · intro b hb; exact Nat.lt_of_lt_of_le (h.olt b hb) hg.size

/-- A new entry, with memory of its own. -/
theorem HR.push (h : HR O env w C sh) (hg : w.grownBy w' none) (x' : Wit) (hown : ∀ b, x'.owns b → w.heap.size ≤ b) (hlt : ∀ b, x'.owns b → b < w'.heap.size) (so' : SO A)
    (hr : ∀ (_hs : Step env w (env ++ [x']) w'), ORep O (env ++ [x']) w' C so' x') :
    HR O (env ++ [x']) w' C (sh ++ [so']) ∧ Step env w (env ++ [x']) w' := by
  have e1 : env.set env.length .dead = env := List.set_eq_of_length_le (Nat.le_refl _)
  have e2 : sh.set env.length .dead = sh := List.set_eq_of_length_le (by rw [h.len]; exact Nat.le_refl _)
  have := h.next env.length none hg (fun k hk => by cases hk) x' (fun b hb => .inr (hown b hb)) hlt so'
  rw [e1, e2] at this
  exact this hr
end

section
variable {E : Eng A} {O : Nat → Prop} {ts : List (SV A)} {sh : List (SO A)} {env : List Wit} {a : Act} {w : World} {o : Oper} {K : Pred A} {C : Enc A}

theorem run_index_array {t e : TypeId} {n b o' : Nat} {k : IntKind} {i : Int} (hd : desc E.P t = .array n e) (hne : tsize E.P e ≠ 0) (h0 : 0 ≤ i) (h1 : i < (n : Nat)) :
    (Instr.indexAt t (.pointer (some ⟨b, o', none⟩)) (.int k i)).run E.P w = .ok (.pointer (some ⟨b, o' + i.toNat * tsize E.P e, none⟩)) w := by
  have hu := under_of_desc hd (by simp)
  obtain ⟨x, hi, hsz⟩ := info_of_tsize (P := E.P) (t := e) rfl hne
  simp only [Instr.indexAt, Go.asIntOf, Sem.run_bind, Sem.run_pure, Result.andThen_ok, run_underlying hu, Instr.sureAddr]
  simp [h0, h1, sizeOf, typeInfo, hi, hsz, Addr.add_lit]

theorem run_index_slice {t e : TypeId} {n c b o' : Nat} {k : IntKind} {i : Int} (hd : desc E.P t = .slice e) (hne : tsize E.P e ≠ 0) (h0 : 0 ≤ i) (h1 : i < (n : Nat)) :
    (Instr.indexAt t (.slice (some ⟨b, o', none⟩) n c) (.int k i)).run E.P w = .ok (.pointer (some ⟨b, o' + i.toNat * tsize E.P e, none⟩)) w := by
  have hu := under_of_desc hd (by simp)
  obtain ⟨x, hi, hsz⟩ := info_of_tsize (P := E.P) (t := e) rfl hne
  simp only [Instr.indexAt, Go.asIntOf, Sem.run_bind, Sem.run_pure, Result.andThen_ok, run_underlying hu]
  simp [h0, h1, sizeOf, typeInfo, hi, hsz, Addr.add_lit]

theorem own_nonempty {e : TypeId} {size n : Nat} {v : Value} {vs : List Value} (h : w.ownsRow 0 e size v n vs) (hn : 0 < n) : ∃ b c, v = .slice (some ⟨b, 0, none⟩) n c := by
  rcases h.2 with ⟨_, h1⟩ | ⟨g, cap, cur, h1, _⟩
  · omega
  · exact ⟨g, cap, h1⟩

theorem op_indexAddr {t : TypeId} {x y : Operand} (ho : o.op = .indexAddr t x y) (h : Rel E O ts sh env a w) (hk : indexS E t (evr E ts sh x) (evr E ts sh y) sh fun v => K v sh) : OpY E O o sh env a w K := by
  have hx := evr_rep h x
  have hy := evr_rep h y
  have key : ∀ (v : Value) (s : SV A), (∀ w', (Instr.indexAt t (a.eval x) (a.eval y)).run E.P w' = .ok v w') → Rep O env w E.C s v → K s sh → OpY E O o sh env a w K := by
    intro v s hrun hr hK
    exact opY_same (v := v) (fun w' => by simp only [execOp, ho]; simp [hrun]) hr hK
  generalize evr E ts sh x = sx at hx hk
  generalize evr E ts sh y = sy at hy hk
  generalize a.eval x = vx at hx key
  generalize a.eval y = vy at hy key
  unfold indexS at hk
  split at hk
  · exact hk.elim
  · rename_i k i l hi
    have hvy := rep_asInt hi hy
    subst hvy
    split at hk
    · rename_i n e hd
      split at hk
      · rename_i b off
        split at hk
        · rename_i k' m xs hrun
          split at hk
          · rename_i hsz
            split at hk
            · rename_i hmn
              obtain ⟨h0, h1, hK⟩ := hk
              split at hrun
              · rename_i e' cs hi'
                obtain ⟨g, vs, hb, hc, hr⟩ := h.heap.cells hi'
                have hv := blkAt_some hx.inv_ptr hb
                subst hv
                refine key _ _ (fun w' => run_index_array hd (by omega) h0 h1) (.aptr (by simp [blkAt, hb, hsz]; omega)) hK
              · cases hrun
            · exact hk.elim
          · exact hk.elim
        · split at hk
          · split at hk
            · rename_i hb2
              split at hk
              · exact hk.elim
              · rename_i hne
                split at hk
                · rename_i hal
                  obtain ⟨g, hb, hv⟩ := live_ptr h.heap hal hx.inv_ptr
                  subst hv
                  exact key _ _ (fun w' => run_index_array hd hne hb2.1 hb2.2) (.ptr (by simp [blkAt, hb])) hk
                · exact hk.elim
            · exact hk.elim
          · exact hk.elim
      · rename_i k' m xs off
        split at hk
        · exact hk.elim
        · rename_i hne
          obtain ⟨h0, h1, hK⟩ := hk
          obtain ⟨b, o2, vs, hv, hO, he, hlt, hc, hr⟩ := hx.inv_rptr
          subst hv
          refine key _ _ (fun w' => run_index_array hd hne h0 h1) ?_ hK
          rw [Nat.add_assoc]
          exact .rptr b o2 vs hO he hlt hc hr
      · rename_i cs off hno
        split at hk
        · split at hk
          · rename_i hb2
            split at hk
            · exact hk.elim
            · rename_i hne
              obtain ⟨b, o2, vs, hv, hO, he, hlt, hc, hr⟩ := hx.inv_rptr
              subst hv
              refine key _ _ (fun w' => run_index_array hd hne hb2.1 hb2.2) ?_ hk
              rw [Nat.add_assoc]
              exact .rptr b o2 vs hO he hlt hc hr
          · exact hk.elim
        · exact hk.elim
      · exact hk.elim
    · rename_i e hd
      split at hk
      · rename_i k' xs
        split at hk
        · rename_i hsz
          obtain ⟨h0, h1, hK⟩ := hk
          obtain ⟨ad, c, hv, h2, h3, h4⟩ := hx.inv_rints
          rcases h4 with h4 | ⟨b, o2, had, hO, he, hc⟩
          · have : xs = [] := by simpa using h4
            subst this; simp at h1; omega
          · subst hv; subst had
            refine key _ _ (fun w' => run_index_slice hd (by omega) h0 h1) ?_ hK
            have hlt : b < w.heap.size := by
              have : 0 < xs.length := by omega
              exact cell_lt (hc 0 (.int k' xs[0]) (by simp [this]))
            rw [hsz, Nat.mul_one]
            refine .rptr b o2 (xs.map (Value.int k')) hO he hlt hc ?_
            have := RepL.run (O := O) (env := env) (w := w) (C := E.C) (k := k') (n := xs.length) (xs := xs) rfl RepL.nil
            simpa using this
        · exact hk.elim
      · rename_i u xs
        split at hk
        · rename_i hsz
          split at hk
          · exact hk.elim
          · rename_i hne
            obtain ⟨h0, h1, hK⟩ := hk
            have hj : i.toNat < xs.length := by omega
            have hK := hK _ (List.getElem?_eq_getElem hj)
            obtain ⟨ad, c, vs, hv, h2, h3, hl, h4, h5⟩ := hx.inv_rseq
            have hr := h5 i.toNat _ (List.getElem?_eq_getElem hj)
            rcases h4 with h4 | ⟨b, o2, had, hO, he, hc⟩
            · exfalso
              rw [h4] at hl
              simp at hl
              have : 0 < xs.length * E.C.size u := Nat.mul_pos (by omega) (by omega)
              rw [← hl] at this; simp at this
            · subst hv; subst had
              refine key _ _ (fun w' => run_index_slice hd hne h0 h1) ?_ hK
              rw [hsz]
              have hsub : ∀ (q : Nat) z, ((vs.drop (i.toNat * E.C.size u)).take (E.C.size u))[q]? = some z → w.cell? ⟨b, o2 + i.toNat * E.C.size u + q, none⟩ = some z := by
                intro q z hq
                rw [List.getElem?_take] at hq
                split at hq
                · rw [List.getElem?_drop] at hq
                  rw [Nat.add_assoc]; exact hc _ z hq
                · cases hq
              have hlt : b < w.heap.size := by
                have h6 : 0 < vs.length := by rw [hl]; exact Nat.mul_pos (by omega) (by omega)
                exact cell_lt (hc 0 vs[0] (List.getElem?_eq_getElem h6))
              have := Rep.rptr (O := O) (env := env) (w := w) (C := E.C) (off := 0) b (o2 + i.toNat * E.C.size u) _ hO he hlt hsub hr
              simpa using this
        · exact hk.elim
      · rename_i j
        split at hk
        · rename_i e' k' xs hi'
          split at hk
          · rename_i hsz
            obtain ⟨h0, h1, hK⟩ := hk
            obtain ⟨v, hb, hown⟩ := h.heap.ivec hi'
            obtain ⟨b, c, hv2⟩ := own_nonempty hown (by omega)
            have hv := slAt_some hx.inv_vec hb
            subst hv; subst hv2
            exact key _ _ (fun w' => run_index_slice hd (by omega) h0 h1) (.vptr (by simp [slAt, hb, hsz])) hK
          · exact hk.elim
        · rename_i u xs hi'
          split at hk
          · rename_i hsz
            split at hk
            · exact hk.elim
            · rename_i hne
              obtain ⟨h0, h1, hK⟩ := hk
              obtain ⟨v, vs, hb, hown, _⟩ := h.heap.svec hi'
              obtain ⟨b, c, hv2⟩ := own_nonempty hown (by omega)
              have hv := slAt_some hx.inv_vec hb
              subst hv; subst hv2
              exact key _ _ (fun w' => run_index_slice hd hne h0 h1) (.vptr (by simp [slAt, hb, hsz])) hK
          · exact hk.elim
        · exact hk.elim
      · rename_i b off n
        split at hk
        · rename_i hsz
          split at hk
          · rename_i hal
            obtain ⟨h0, h1, hK⟩ := hk
            obtain ⟨g, hb, c, hv, h2, h3⟩ := live_ptr h.heap hal hx.inv_asl
            subst hv
            exact key _ _ (fun w' => run_index_slice hd (by omega) h0 h1) (.aptr (by simp [blkAt, hb, hsz]; omega)) hK
          · exact hk.elim
        · exact hk.elim
      · exact hk.elim
    · exact hk.elim
end
end Go.Eng
