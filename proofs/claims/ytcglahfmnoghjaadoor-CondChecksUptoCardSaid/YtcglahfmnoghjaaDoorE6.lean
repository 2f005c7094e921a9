/- The engine's operations are right: cells. Conditions: none. -/
import Derived.Test.YtcglahfmnoghjaaDoorE5
namespace Go.Eng
open Go
variable {A : Nat → Type}

section
variable {O : Nat → Prop} {env : List Wit} {w : World} {C : Enc A}

theorem RepL.length : ∀ {cs : SL A} {vs : List Value}, RepL O env w C cs vs → vs.length = cs.len
  | .nil, _, h => by rw [h.inv_nil]; rfl
  | .cell s r, _, h => by
    obtain ⟨u, us, rfl, _, hr⟩ := h.inv_cell
    simp [SL.len, RepL.length hr]
  | .run k n xs r, _, h => by
    obtain ⟨us, hn, rfl, hr⟩ := h.inv_run
    simp [SL.len, RepL.length hr, hn]

theorem RepL.app : ∀ {x y : SL A} {us vs : List Value}, RepL O env w C x us → RepL O env w C y vs → RepL O env w C (x.app y) (us ++ vs)
  | .nil, _, _, _, h, k => by rw [h.inv_nil]; exact k
  | .cell s r, _, _, _, h, k => by
    obtain ⟨u, us, rfl, hs, hr⟩ := h.inv_cell
    exact .cell hs (RepL.app hr k)
  | .run k' n xs r, _, _, _, h, k => by
    obtain ⟨us, hn, rfl, hr⟩ := h.inv_run
    rw [List.append_assoc]
    exact .run hn (RepL.app hr k)

theorem RepL.take : ∀ {cs : SL A} {vs : List Value} {n : Nat} {x : SL A}, RepL O env w C cs vs → cs.take n = some x → RepL O env w C x (vs.take n) ∧ n ≤ vs.length
  | cs, vs, 0, x, h, e => by
    have : x = .nil := by cases cs <;> simp [SL.take] at e <;> exact e.symm
    subst this
    exact ⟨by rw [List.take_zero]; exact .nil, Nat.zero_le _⟩
  | .nil, _, n + 1, x, h, e => by simp [SL.take] at e
  | .cell s r, _, n + 1, x, h, e => by
    obtain ⟨u, us, rfl, hs, hr⟩ := h.inv_cell
    simp only [SL.take] at e
    split at e
    · rename_i y hy
      obtain ⟨h1, h2⟩ := RepL.take hr hy
      cases e
      exact ⟨.cell hs h1, by simp; exact h2⟩
    · cases e
  | .run k m xs r, _, n + 1, x, h, e => by
    obtain ⟨us, hn, rfl, hr⟩ := h.inv_run
    simp only [SL.take] at e
    split at e
    · rename_i hm
      split at e
      · rename_i y hy
        obtain ⟨h1, h2⟩ := RepL.take hr hy
        cases e
        refine ⟨?_, by simp; omega⟩
        rw [List.take_append, List.take_of_length_le (by simp; omega)]
        simp only [List.length_map, hn]
        exact .run hn h1
      · cases e
    · rename_i hm
      cases e
      refine ⟨?_, by simp; omega⟩
      rw [List.take_append_of_le_length (by simp; omega), ← List.map_take]
      have := RepL.run (O := O) (env := env) (w := w) (C := C) (k := k) (xs := xs.take (n + 1)) (n := n + 1) (by simp; omega) RepL.nil
      simpa using this

theorem RepL.drop : ∀ {cs : SL A} {vs : List Value} {n : Nat} {x : SL A}, RepL O env w C cs vs → cs.drop n = some x → RepL O env w C x (vs.drop n) ∧ n ≤ vs.length
  | cs, vs, 0, x, h, e => by
    have : x = cs := by cases cs <;> simp [SL.drop] at e <;> exact e.symm
    subst this
    exact ⟨h, Nat.zero_le _⟩
  | .nil, _, n + 1, x, h, e => by simp [SL.drop] at e
  | .cell s r, _, n + 1, x, h, e => by
    obtain ⟨u, us, rfl, hs, hr⟩ := h.inv_cell
    simp only [SL.drop] at e
    obtain ⟨h1, h2⟩ := RepL.drop hr e
    exact ⟨h1, by simp; exact h2⟩
  | .run k m xs r, _, n + 1, x, h, e => by
    obtain ⟨us, hn, rfl, hr⟩ := h.inv_run
    simp only [SL.drop] at e
    split at e
    · rename_i hm
      obtain ⟨h1, h2⟩ := RepL.drop hr e
      refine ⟨?_, by simp; omega⟩
      rw [List.drop_append, List.drop_of_length_le (by simp; omega)]
      simp only [List.length_map, hn, List.nil_append]
      exact h1
    · rename_i hm
      cases e
      refine ⟨?_, by simp; omega⟩
      rw [List.drop_append_of_le_length (by simp; omega), ← List.map_drop]
      exact .run (by simp; omega) hr

theorem RepL.sub {cs : SL A} {vs : List Value} {o n : Nat} {x : SL A} (h : RepL O env w C cs vs) (e : cs.sub o n = some x) :
    RepL O env w C x ((vs.drop o).take n) ∧ o + n ≤ vs.length := by
  unfold SL.sub at e
  split at e
  · rename_i d hd
    obtain ⟨h1, h2⟩ := h.drop hd
    obtain ⟨h3, h4⟩ := h1.take e
    exact ⟨h3, by simp at h4; omega⟩
  · cases e

theorem RepL.put {cs d : SL A} {vs us : List Value} {o : Nat} {x : SL A} (h : RepL O env w C cs vs) (hd : RepL O env w C d us) (e : cs.put o d = some x) :
    RepL O env w C x (vs.take o ++ us ++ vs.drop (o + us.length)) ∧ o + us.length ≤ vs.length := by
  unfold SL.put at e
  split at e
  · rename_i y hy
    split at e
    · rename_i z hz
      cases e
      rw [← hd.length] at hz
      obtain ⟨h1, _⟩ := h.take hy
      obtain ⟨h3, h4⟩ := h.drop hz
      refine ⟨?_, h4⟩
      rw [List.append_assoc]
      exact h1.app (hd.app h3)
    · cases e
  · cases e

theorem RepL.one : ∀ {cs : SL A} {vs : List Value} {o : Nat} {s : SV A}, RepL O env w C cs vs → cs.one o = some s → ∃ v, vs[o]? = some v ∧ Rep O env w C s v
  | .nil, _, _, _, _, e => by simp [SL.one] at e
  | .cell s' r, _, 0, s, h, e => by
    obtain ⟨u, us, rfl, hs, hr⟩ := h.inv_cell
    simp only [SL.one, Option.some.injEq] at e
    subst e
    exact ⟨u, rfl, hs⟩
  | .cell s' r, _, n + 1, s, h, e => by
    obtain ⟨u, us, rfl, hs, hr⟩ := h.inv_cell
    simp only [SL.one] at e
    have hq := RepL.one hr e
    simpa using hq
  | .run k m xs r, _, o, s, h, e => by
    obtain ⟨us, hn, rfl, hr⟩ := h.inv_run
    simp only [SL.one] at e
    split at e
    · rename_i hm
      cases e
      have hl : o < xs.length := by omega
      refine ⟨.int k (xs.getD o 0), ?_, .int⟩
      rw [List.getElem?_append_left (by simp; exact hl)]
      simp [hl]
    · rename_i hm
      obtain ⟨v, hv, hr'⟩ := RepL.one hr e
      refine ⟨v, ?_, hr'⟩
      rw [List.getElem?_append_right (by simp; omega)]
      simpa [hn] using hv

theorem RepL.runAt : ∀ {cs : SL A} {vs : List Value} {o : Nat} {k : IntKind} {m : Nat} {xs : List Int}, RepL O env w C cs vs → cs.runAt o = some (k, m, xs) →
    xs.length = m ∧ ∃ pre post, vs = pre ++ (xs.map (Value.int k) ++ post) ∧ pre.length = o ∧
      ∀ ys : List Int, ys.length = m → RepL O env w C (cs.runSet o ys) (pre ++ (ys.map (Value.int k) ++ post))
  | .nil, _, _, _, _, _, _, e => by simp [SL.runAt] at e
  | .cell s' r, _, 0, _, _, _, h, e => by simp [SL.runAt] at e
  | .cell s' r, _, n + 1, k, m, xs, h, e => by
    obtain ⟨u, us, rfl, hs, hr⟩ := h.inv_cell
    simp only [SL.runAt] at e
    obtain ⟨h1, pre, post, h2, h3, h4⟩ := RepL.runAt hr e
    exact ⟨h1, u :: pre, post, by rw [h2]; rfl, by simp [h3], fun ys hy => .cell hs (h4 ys hy)⟩
  | .run k' m' xs' r, _, o, k, m, xs, h, e => by
    obtain ⟨us, hn, rfl, hr⟩ := h.inv_run
    simp only [SL.runAt] at e
    split at e
    · rename_i hm
      split at e
      · rename_i ho
        cases e
        refine ⟨hn, [], us, rfl, by simp [ho], fun ys hy => ?_⟩
        subst ho
        simp only [SL.runSet, hm, if_true, List.nil_append]
        exact .run hy hr
      · cases e
    · rename_i hm
      obtain ⟨h1, pre, post, h2, h3, h4⟩ := RepL.runAt hr e
      refine ⟨h1, xs'.map (Value.int k') ++ pre, post, by rw [h2, List.append_assoc], by simp [h3, hn]; omega, fun ys hy => ?_⟩
      simp only [SL.runSet, hm, if_false]
      rw [List.append_assoc]
      exact .run hn (h4 ys hy)
end

section
variable {O : Nat → Prop} {env : List Wit} {w : World} {C : Enc A} {sh : List (SO A)}
/-- The block of a live entry. -/
theorem HR.cells (h : HR O env w C sh) {i : Nat} {e : TypeId} {cs : SL A} (hi : nth sh i = some (.cells e cs)) :
    ∃ b vs, env[i]? = some (.blk b) ∧ w.heap[b]? = some (.cells (List.toArray vs) e (0, 0)) ∧ RepL O env w C cs vs := by
  rw [nth_eq] at hi
  have hl : i < env.length := by rw [← h.len]; exact (List.getElem?_eq_some_iff.1 hi).1
  have hx : env[i]? = some env[i] := List.getElem?_eq_getElem hl
  have hr := h.rep i _ _ hi hx
  generalize env[i] = x at hx hr
  cases x with
  | blk b => obtain ⟨vs, h1, h2⟩ := hr; exact ⟨b, vs, hx, h1, h2⟩
  | dead => exact hr.elim
  | ro v => exact hr.elim
  | sl v => exact hr.elim
theorem HR.ivec (h : HR O env w C sh) {i : Nat} {e : TypeId} {k : IntKind} {xs : List Int} (hi : nth sh i = some (.ivec e k xs)) :
    ∃ v, env[i]? = some (.sl v) ∧ w.ownsRow 0 e 1 v xs.length (xs.map (Value.int k)) := by
  rw [nth_eq] at hi
  have hl : i < env.length := by rw [← h.len]; exact (List.getElem?_eq_some_iff.1 hi).1
  have hx : env[i]? = some env[i] := List.getElem?_eq_getElem hl
  have hr := h.rep i _ _ hi hx
  generalize env[i] = x at hx hr
  cases x with
  | blk b => exact hr.elim
  | ro v => exact hr.elim
  | dead => exact hr.elim
  | sl v => exact ⟨v, hx, hr⟩
theorem HR.svec (h : HR O env w C sh) {i : Nat} {e : TypeId} {xs : List (A e)} (hi : nth sh i = some (.svec e xs)) :
    ∃ v vs, env[i]? = some (.sl v) ∧ w.ownsRow 0 e (C.size e) v xs.length vs ∧
      ∀ (j : Nat) (x : A e), xs[j]? = some x → RepL O env w C (C.enc e x) ((vs.drop (j * C.size e)).take (C.size e)) := by
  rw [nth_eq] at hi
  have hl : i < env.length := by rw [← h.len]; exact (List.getElem?_eq_some_iff.1 hi).1
  have hx : env[i]? = some env[i] := List.getElem?_eq_getElem hl
  have hr := h.rep i _ _ hi hx
  generalize env[i] = x at hx hr
  cases x with
  | blk b => exact hr.elim
  | ro v => exact hr.elim
  | dead => exact hr.elim
  | sl v => obtain ⟨vs, h1, h2⟩ := hr; exact ⟨v, vs, hx, h1, h2⟩

theorem blkAt_some {i b : Nat} {P : Nat → Prop} (h : blkAt env i P) (hb : env[i]? = some (.blk b)) : P b := by
  simpa [blkAt, hb] using h
theorem slAt_some {i : Nat} {v : Value} {P : Value → Prop} (h : slAt env i P) (hb : env[i]? = some (.sl v)) : P v := by
  simpa [slAt, hb] using h

theorem alive_not_dead (h : HR O env w C sh) {i : Nat} (ha : alive sh i = true) : (∃ b, env[i]? = some (.blk b)) ∨ ∃ v, env[i]? = some (.sl v) := by
  unfold alive at ha
  split at ha
  · rename_i hi; obtain ⟨b, _, hb, _⟩ := h.cells hi; exact .inl ⟨b, hb⟩
  · rename_i hi; obtain ⟨v, hb, _⟩ := h.ivec hi; exact .inr ⟨v, hb⟩
  · rename_i hi; obtain ⟨v, _, hb, _⟩ := h.svec hi; exact .inr ⟨v, hb⟩
  · cases ha
end
end Go.Eng
