/- The engine is right: a function that is lent memory, called from anywhere; a function that is walked where it is called. Conditions: none. -/
import Derived.Test.YtcglahfmnoghjaaDoorE23
namespace Go.Eng
open Go
variable {A : Nat → Type}

mutual
/-- Does it speak of nothing that is read alone? -/
def ownV : SV A → Bool
  | .rptr _ _ => false
  | .rints _ _ => false
  | .rseq _ _ => false
  | .iface _ v => ownV v
  | .fn _ a b => if ownL a then ownL b else false
  | .agg cs => ownL cs
  | .tup cs => ownL cs
  | _ => true
def ownL : SL A → Bool
  | .nil => true
  | .cell v r => if ownV v then ownL r else false
  | .run _ _ _ r => ownL r
end
def ownO : SO A → Bool
  | .dead => true
  | .cells _ cs => ownL cs
  | .ivec _ _ _ => true
  | _ => false
def ownOs : List (SO A) → Bool
  | [] => true
  | o :: l => if ownO o then ownOs l else false

/-- Where a callee's entry lies with its caller. -/
def place (σ : List (SV A)) (N k : Nat) : Nat := match nth σ k with
  | some s => match srcOf s with
    | some j => j
    | none => N + k
  | none => N + k
def layB {α : Type _} : List α → List (SV A) → List α → List α
  | xs, [], _ => xs
  | xs, _ :: _, [] => xs
  | xs, s :: σ, y :: l => match srcOf s with
    | some j => layB (setNth xs j y) σ l
    | none => layB xs σ l
def apd {α : Type _} (d : α) : List (SV A) → List α → List α
  | [], l => l
  | _ :: _, [] => []
  | s :: σ, y :: l => (match srcOf s with
    | some _ => d
    | none => y) :: apd d σ l

/-- What a caller knows of a call to which it lends memory. -/
def tLent (L : LS A) (get : List (SV A) → List (SO A) → Option L.X) : SpecT A := fun args sh K => match get args sh with
  | none => False
  | some x => match endS sh (L.args x) args with
    | none => False
    | some (args', sh1) => match srcs (closeM 0 sh1 (L.hin x) (closeM 0 sh1 (L.hin x) (findSlots 0 args' sh1 (slotsFrom 0 (L.args x))))) 0 (cnt (L.hin x)) with
      | none => False
      | some σ => if okOs 0 σ (L.hin x) then (if okSlots 0 σ (slotsFrom 0 (L.args x)) then (if distinct [] σ [] then
          slotsAre 0 σ args' sh1 (slotsFrom 0 (L.args x)) ∧ moreIs 0 σ sh1 (L.hin x) σ ∧ L.pre x ∧
          K (ren (place σ (cnt sh)) (resV (L.res x)))
            (joinL (layB (if ownV (resV (L.res x)) then (if ownOs (L.hout x) then sh else sh1) else sh1) σ (renOs (place σ (cnt sh)) (L.hout x))) (apd .dead σ (renOs (place σ (cnt sh)) (L.hout x))))
        else False) else False) else False

section
variable {O O2 : Nat → Prop} {env env2 : List Wit} {w w2 : World} {C : Enc A}
mutual
/-- From one heap into another; what speaks of nothing that is read alone, into any. -/
theorem Rep.ren2 {f : Nat → Nat} {n : Nat} (hC : ∀ t y, belowL 0 (C.enc t y) = true) (hE : ∀ i, i < n → env2[f i]? = env[i]?) : ∀ {s : SV A} {v : Value}, ((∀ b, ¬ O b → ¬ owned env b → ¬ O2 b ∧ ¬ owned env2 b) ∨ ownV s = true) → belowV n s = true → Rep O env w C s v → Rep O2 env2 w C (ren f s) v
  | _, _, _, _, .junk => by simp only [Eng.ren]; exact .junk
  | _, _, _, _, .undef => by simp only [Eng.ren]; exact .undef
  | _, _, _, _, .val => by simp only [Eng.ren]; exact .val
  | _, _, _, _, .int => by simp only [Eng.ren]; exact .int
  | _, _, _, _, .lit => by simp only [Eng.ren]; exact .lit
  | _, _, _, _, .bl => by simp only [Eng.ren]; exact .bl
  | _, _, _, _, .sb => by simp only [Eng.ren]; exact .sb
  | _, _, _, _, .err h => by simp only [Eng.ren]; exact .err h
  | _, _, _, hb, .ptr h => by simp only [Eng.ren]; exact .ptr (h.ren hE (ite_tt (by simp only [belowV] at hb; exact hb)))
  | _, _, _, hb, .aptr h => by simp only [Eng.ren]; exact .aptr (h.ren hE (ite_tt (by simp only [belowV] at hb; exact hb)))
  | _, _, _, hb, .asl h => by simp only [Eng.ren]; exact .asl (h.ren hE (ite_tt (by simp only [belowV] at hb; exact hb)))
  | _, _, _, hb, .vec h => by simp only [Eng.ren]; exact .vec (h.ren hE (ite_tt (by simp only [belowV] at hb; exact hb)))
  | _, _, _, hb, .vptr h => by simp only [Eng.ren]; exact .vptr (h.ren hE (ite_tt (by simp only [belowV] at hb; exact hb)))
  | _, _, hO, hb, .rptr b o vs h1 h2 hl hcl h => by
    simp only [Eng.ren]
    rcases hO with hO | hO
    · exact .rptr b o vs (hO b h1 h2).1 (hO b h1 h2).2 hl hcl (RepL.ren2 hC hE (.inl hO) (by simp only [belowV] at hb; exact hb) h)
    · simp [ownV] at hO
  | _, _, hO, _, .rints a c h1 h2 h => by
    simp only [Eng.ren]
    rcases hO with hO | hO
    · exact .rints a c h1 h2 (h.far hO)
    · simp [ownV] at hO
  | _, _, hO, _, .rseq a c vs h1 h2 h3 h hx => by
    simp only [Eng.ren]
    rcases hO with hO | hO
    · exact .rseq a c vs h1 h2 h3 (h.far hO) (fun j x hj => RepL.closed hC hO (hC _ _) (hx j x hj))
    · simp [ownV] at hO
  | _, _, hO, hb, .iface h => by simp only [Eng.ren]; exact .iface (Rep.ren2 hC hE (hO.imp id (fun h => by simpa only [ownV] using h)) (by simp only [belowV] at hb; exact hb) h)
  | _, _, hO, hb, .fn us vs ha hb' => by simp only [Eng.ren]; exact .fn us vs (RepL.ren2 hC hE (hO.imp id (fun h => by simp only [ownV] at h; exact (ite_and h).1)) (by simp only [belowV] at hb; exact (ite_and hb).1) ha) (RepL.ren2 hC hE (hO.imp id (fun h => by simp only [ownV] at h; exact (ite_and h).2)) (by simp only [belowV] at hb; exact (ite_and hb).2) hb')
  | _, _, hO, hb, .agg vs h => by simp only [Eng.ren]; exact .agg vs (RepL.ren2 hC hE (hO.imp id (fun h => by simpa only [ownV] using h)) (by simp only [belowV] at hb; exact hb) h)
  | _, _, hO, hb, .tup vs h => by simp only [Eng.ren]; exact .tup vs (RepL.ren2 hC hE (hO.imp id (fun h => by simpa only [ownV] using h)) (by simp only [belowV] at hb; exact hb) h)
theorem RepL.ren2 {f : Nat → Nat} {n : Nat} (hC : ∀ t y, belowL 0 (C.enc t y) = true) (hE : ∀ i, i < n → env2[f i]? = env[i]?) : ∀ {cs : SL A} {vs : List Value}, ((∀ b, ¬ O b → ¬ owned env b → ¬ O2 b ∧ ¬ owned env2 b) ∨ ownL cs = true) → belowL n cs = true → RepL O env w C cs vs → RepL O2 env2 w C (renL f cs) vs
  | _, _, _, _, .nil => by simp only [Eng.renL]; exact .nil
  | _, _, hO, hb, .cell h hr => by simp only [Eng.renL]; exact .cell (Rep.ren2 hC hE (hO.imp id (fun h => by simp only [ownL] at h; exact (ite_and h).1)) (by simp only [belowL] at hb; exact (ite_and hb).1) h) (RepL.ren2 hC hE (hO.imp id (fun h => by simp only [ownL] at h; exact (ite_and h).2)) (by simp only [belowL] at hb; exact (ite_and hb).2) hr)
  | _, _, hO, hb, .run hn hr => by simp only [Eng.renL]; exact .run hn (RepL.ren2 hC hE (hO.imp id (fun h => by simpa only [ownL] using h)) (by simp only [belowL] at hb; exact hb) hr)
end
theorem ORep.ren2 {f : Nat → Nat} {n : Nat} (hC : ∀ t y, belowL 0 (C.enc t y) = true) (hE : ∀ i, i < n → env2[f i]? = env[i]?) {a : SO A} {x : Wit} (hO : (∀ b, ¬ O b → ¬ owned env b → ¬ O2 b ∧ ¬ owned env2 b) ∨ ownO a = true) (hb : belowO n a = true) (h : ORep O env w C a x) : ORep O2 env2 w C (renO f a) x := by
  cases a with
  | dead => exact h
  | cells e cs =>
    cases x with
    | blk b => obtain ⟨vs, h1, h2⟩ := h; exact ⟨vs, h1, h2.ren2 hC hE hO hb⟩
    | dead => exact h
    | ro v => exact h
    | sl v => exact h
  | fr s => cases x with
    | ro v =>
      rcases hO with hO | hO
      · exact Rep.ren2 hC hE (.inl hO) hb h
      · cases hO
    | dead => exact h
    | blk v => exact h
    | sl v => exact h
  | ivec e k xs => cases x <;> exact h
  | svec e xs =>
    cases x with
    | sl v =>
      rcases hO with hO | hO
      · obtain ⟨vs, h1, h2⟩ := h; exact ⟨vs, h1, fun j y hj => (h2 j y hj).closed hC hO (hC _ _)⟩
      · cases hO
    | dead => exact h
    | ro v => exact h
    | blk b => exact h
end

theorem ownOs_get : ∀ {l : List (SO A)}, ownOs l = true → ∀ (i : Nat) a, l[i]? = some a → ownO a = true
  | [], _, i, a, h => by simp at h
  | x :: l, hb, i, a, h => by
    simp only [ownOs] at hb
    obtain ⟨h1, h2⟩ := ite_and hb
    cases i with
    | zero => simp at h; subst h; exact h1
    | succ i => exact ownOs_get h2 i a (by simpa using h)

section
variable {α : Type _}
theorem layB_len : ∀ {σ : List (SV A)} {xs l : List α}, (layB xs σ l).length = xs.length
  | [], xs, l => by simp [layB]
  | _ :: _, xs, [] => by simp [layB]
  | s :: σ, xs, y :: l => by
    simp only [layB]
    split
    · rw [layB_len, setNth_eq, List.length_set]
    · exact layB_len
theorem apd_len {d : α} : ∀ {σ : List (SV A)} {l : List α}, (apd d σ l).length = l.length
  | [], l => rfl
  | _ :: _, [] => rfl
  | s :: σ, y :: l => by simp [apd, apd_len]
theorem layB_out {i : Nat} : ∀ {σ : List (SV A)} {xs l : List α}, (∀ (k : Nat) s, σ[k]? = some s → srcOf s ≠ some i) → (layB xs σ l)[i]? = xs[i]?
  | [], xs, l, _ => by simp [layB]
  | _ :: _, xs, [], _ => by simp [layB]
  | s :: σ, xs, y :: l, h => by
    have h1 := h 0 s rfl
    have h2 : ∀ (k : Nat) s, σ[k]? = some s → srcOf s ≠ some i := fun k s hk => h (k + 1) s (by simpa using hk)
    simp only [layB]
    split
    · rename_i j hj
      rw [layB_out h2, setNth_eq, List.getElem?_set_ne (fun e => h1 (by rw [hj, e]))]
    · exact layB_out h2
theorem layB_in {j : Nat} {y : α} : ∀ {σ : List (SV A)} {xs l : List α} {k : Nat} {s : SV A}, (∀ (k k' : Nat) s s' j, σ[k]? = some s → σ[k']? = some s' → srcOf s = some j → srcOf s' = some j → k = k') →
    σ[k]? = some s → srcOf s = some j → l[k]? = some y → j < xs.length → (layB xs σ l)[j]? = some y
  | [], xs, l, k, s, _, h, _, _, _ => by simp at h
  | _ :: _, xs, [], k, s, _, _, _, h, _ => by simp at h
  | s0 :: σ, xs, z :: l, k, s, hd, hk, hs, hl, hj => by
    have hd' : ∀ (k k' : Nat) s s' j, σ[k]? = some s → σ[k']? = some s' → srcOf s = some j → srcOf s' = some j → k = k' := fun k k' s s' j h1 h2 h3 h4 => by
      have := hd (k + 1) (k' + 1) s s' j (by simpa using h1) (by simpa using h2) h3 h4
      omega
    cases k with
    | zero =>
      simp at hk hl
      subst hk; subst hl
      have hout : ∀ (k : Nat) s, σ[k]? = some s → srcOf s ≠ some j := fun k s hk e => by
        have := hd 0 (k + 1) s0 s j rfl (by simpa using hk) hs e
        omega
      simp only [layB, hs]
      rw [layB_out hout, setNth_eq, List.getElem?_set_self hj]
    | succ k =>
      simp only [layB]
      split
      · exact layB_in hd' (by simpa using hk) hs (by simpa using hl) (by rw [setNth_eq, List.length_set]; exact hj)
      · exact layB_in hd' (by simpa using hk) hs (by simpa using hl) hj
theorem apd_get {d : α} : ∀ {σ : List (SV A)} {l : List α} {k : Nat} {y : α}, l[k]? = some y → (apd d σ l)[k]? = some (match σ[k]? with
    | some s => match srcOf s with
      | some _ => d
      | none => y
    | none => y)
  | [], l, k, y, h => by simpa [apd] using h
  | _ :: _, [], k, y, h => by simp at h
  | s :: σ, z :: l, 0, y, h => by simp at h; subst h; simp [apd]
  | s :: σ, z :: l, k + 1, y, h => by simp [apd, apd_get (σ := σ) (l := l) (k := k) (y := y) (d := d) (by simpa using h)]

/-- An entry, at its place. -/
theorem lay_at {d y : α} {σ : List (SV A)} {xs l : List α} {k N : Nat} (hN : xs.length = N) (hd : ∀ (k k' : Nat) s s' j, σ[k]? = some s → σ[k']? = some s' → srcOf s = some j → srcOf s' = some j → k = k')
    (hlt : ∀ (k : Nat) s j, σ[k]? = some s → srcOf s = some j → j < N) (h : l[k]? = some y) : (layB xs σ l ++ apd d σ l)[place σ N k]? = some y := by
  have hl : (layB xs σ l).length = N := by rw [layB_len, hN]
  have hap := apd_get (d := d) (σ := σ) h
  have hnew : (layB xs σ l ++ apd d σ l)[N + k]? = (apd d σ l)[k]? := by
    rw [List.getElem?_append_right (by rw [hl]; omega), hl]; congr 1; omega
  unfold place
  rw [nth_eq]
  cases hs : σ[k]? with
  | none => simp only; rw [hnew, hap, hs]
  | some s =>
    simp only
    cases hj : srcOf s with
    | none => simp only; rw [hnew, hap, hs]; simp only [hj]
    | some j =>
      simp only
      have h1 := hlt k s j hs hj
      rw [List.getElem?_append_left (by rw [hl]; exact h1)]
      exact layB_in hd hs hj h (by rw [hN]; exact h1)
theorem lay_dead {d y : α} {σ : List (SV A)} {xs l : List α} {k N j : Nat} {s : SV A} (hN : xs.length = N) (h : l[k]? = some y) (hs : σ[k]? = some s) (hj : srcOf s = some j) : (layB xs σ l ++ apd d σ l)[N + k]? = some d := by
  have hl : (layB xs σ l).length = N := by rw [layB_len, hN]
  have hap := apd_get (d := d) (σ := σ) h
  rw [List.getElem?_append_right (by rw [hl]; omega), hl, show N + k - N = k from by omega, hap, hs]
  simp only [hj]
theorem lay_out {d : α} {σ : List (SV A)} {xs l : List α} {i N : Nat} (hN : xs.length = N) (hi : i < N) (h : ∀ (k : Nat) s, σ[k]? = some s → srcOf s ≠ some i) : (layB xs σ l ++ apd d σ l)[i]? = xs[i]? := by
  have hl : (layB xs σ l).length = N := by rw [layB_len, hN]
  rw [List.getElem?_append_left (by rw [hl]; exact hi), layB_out h]
/-- Which entries there are. -/
theorem lay_cases {d y : α} {σ : List (SV A)} {xs l : List α} {i N : Nat} (hN : xs.length = N) (hd : ∀ (k k' : Nat) s s' j, σ[k]? = some s → σ[k']? = some s' → srcOf s = some j → srcOf s' = some j → k = k')
    (hlt : ∀ (k : Nat) s j, σ[k]? = some s → srcOf s = some j → j < N) (hle : σ.length ≤ l.length) (h : (layB xs σ l ++ apd d σ l)[i]? = some y) :
    (i < N ∧ (∀ (k : Nat) s, σ[k]? = some s → srcOf s ≠ some i) ∧ xs[i]? = some y) ∨ (∃ k, k < l.length ∧ i = place σ N k ∧ l[k]? = some y) ∨ (y = d ∧ ∃ k s j, k < l.length ∧ i = N + k ∧ σ[k]? = some s ∧ srcOf s = some j) := by
  have hl : (layB xs σ l).length = N := by rw [layB_len, hN]
  rcases Nat.lt_or_ge i N with hi | hi
  · by_cases hex : ∃ (k : Nat) (s : SV A), σ[k]? = some s ∧ srcOf s = some i
    · obtain ⟨k, s, hs, hj⟩ := hex
      have hk : k < l.length := by have := (List.getElem?_eq_some_iff.1 hs).1; omega
      have hy := lay_at (d := d) (xs := xs) hN hd hlt (List.getElem?_eq_getElem hk)
      have hp : place σ N k = i := by unfold place; rw [nth_eq, hs]; simp only [hj]
      rw [hp, h] at hy
      exact .inr (.inl ⟨k, hk, hp.symm, by rw [List.getElem?_eq_getElem hk]; exact hy.symm⟩)
    · have hout : ∀ (k : Nat) s, σ[k]? = some s → srcOf s ≠ some i := fun k s h1 h2 => hex ⟨k, s, h1, h2⟩
      rw [lay_out hN hi hout] at h
      exact .inl ⟨hi, hout, h⟩
  · rw [List.getElem?_append_right (by rw [hl]; exact hi), hl] at h
    have hk : i - N < l.length := by
      have := (List.getElem?_eq_some_iff.1 h).1
      rwa [apd_len] at this
    have hap := apd_get (d := d) (σ := σ) (List.getElem?_eq_getElem hk)
    rw [h] at hap
    cases hs : σ[i - N]? with
    | none =>
      rw [hs] at hap
      simp only [Option.some.injEq] at hap
      refine .inr (.inl ⟨i - N, hk, ?_, by rw [List.getElem?_eq_getElem hk, hap]⟩)
      unfold place; rw [nth_eq, hs]; simp only; omega
    | some s =>
      rw [hs] at hap
      simp only at hap
      cases hj : srcOf s with
      | none =>
        rw [hj] at hap
        simp only [Option.some.injEq] at hap
        refine .inr (.inl ⟨i - N, hk, ?_, by rw [List.getElem?_eq_getElem hk, hap]⟩)
        unfold place; rw [nth_eq, hs]; simp only [hj]; omega
      | some j =>
        rw [hj] at hap
        simp only [Option.some.injEq] at hap
        exact .inr (.inr ⟨hap, i - N, s, j, hk, by omega, hs, hj⟩)
theorem place_inj {σ : List (SV A)} {N k k' : Nat} (hd : ∀ (k k' : Nat) s s' j, σ[k]? = some s → σ[k']? = some s' → srcOf s = some j → srcOf s' = some j → k = k')
    (hlt : ∀ (k : Nat) s j, σ[k]? = some s → srcOf s = some j → j < N) (h : place σ N k = place σ N k') : k = k' := by
  have key : ∀ k, (∃ s j, σ[k]? = some s ∧ srcOf s = some j ∧ place σ N k = j ∧ j < N) ∨ place σ N k = N + k := by
    intro k
    unfold place
    rw [nth_eq]
    cases hs : σ[k]? with
    | none => exact .inr rfl
    | some s =>
      cases hj : srcOf s with
      | none => exact .inr (by simp only [hj])
      | some j => exact .inl ⟨s, j, rfl, hj, by simp only [hj], hlt k s j hs hj⟩
  rcases key k with ⟨s, j, h1, h2, h3, h4⟩ | h1 <;> rcases key k' with ⟨s', j', h5, h6, h7, h8⟩ | h5
  · have : j = j' := by omega
    subst this
    exact hd k k' s s' j h1 h5 h2 h6
  · omega
  · omega
  · omega
end

section
variable {O O' : Nat → Prop} {envB envc0 envc : List Wit} {w w' : World} {C : Enc A}
/-- What a callee leaves, with its caller. -/
theorem put_back {shB hout : List (SO A)} {σ : List (SV A)} {res : SV A} {v : Value} (hC : ∀ t y, belowL 0 (C.enc t y) = true) (hh : HR O envB w C shB)
    (hd : ∀ (k k' : Nat) s s' j, σ[k]? = some s → σ[k']? = some s' → srcOf s = some j → srcOf s' = some j → k = k')
    (h0 : ∀ (k : Nat) s j, σ[k]? = some s → srcOf s = some j → ∃ x, envB[j]? = some x ∧ envc0[k]? = some x)
    (h0' : ∀ (k : Nat) x b, envc0[k]? = some x → x.owns b → ∃ s j, σ[k]? = some s ∧ srcOf s = some j) (hl0 : envc0.length = σ.length)
    (hOO : ∀ b, O b → O' b) (hhc : HR O' envc w' C hout) (hst : Step envc0 w envc w') (hbv : belowV hout.length res = true) (hbo : belowOs hout.length hout = true) (hr : Rep O' envc w' C res v)
    (hT : (∀ b, ¬ O' b → ¬ owned envc b → ¬ O b ∧ ∀ (i : Nat) x, envB[i]? = some x → x.owns b → ∃ (k : Nat) (s : SV A), σ[k]? = some s ∧ srcOf s = some i) ∨ (ownV res = true ∧ ownOs hout = true)) :
    HR O (layB envB σ envc ++ apd .dead σ envc) w' C (layB shB σ (hout.map (renO (place σ shB.length))) ++ apd .dead σ (hout.map (renO (place σ shB.length)))) ∧
      Step envB w (layB envB σ envc ++ apd .dead σ envc) w' ∧ Rep O (layB envB σ envc ++ apd .dead σ envc) w' C (ren (place σ shB.length) res) v := by
  have hN : envB.length = shB.length := hh.len.symm
  have hlt : ∀ (k : Nat) s j, σ[k]? = some s → srcOf s = some j → j < shB.length := fun k s j h1 h2 => by
    obtain ⟨x, h3, _⟩ := h0 k s j h1 h2
    have := (List.getElem?_eq_some_iff.1 h3).1
    omega
  have hle : σ.length ≤ envc.length := by rw [← hl0]; exact hst.elen
  have hcl : hout.length = envc.length := hhc.len
  have hcases := fun (i : Nat) (y : Wit) (h : (layB envB σ envc ++ apd .dead σ envc)[i]? = some y) => lay_cases hN hd hlt hle h
  -- who owns what
  have hown0 : ∀ b, owned envc0 b → ∃ (i : Nat) (k : Nat) (s : SV A) (x : Wit), σ[k]? = some s ∧ srcOf s = some i ∧ envB[i]? = some x ∧ x.owns b := fun b ⟨k, x, hx, ho⟩ => by
    obtain ⟨s, j, hs, hj⟩ := h0' k x b hx ho
    obtain ⟨y, h1, h2⟩ := h0 k s j hs hj
    rw [hx] at h2; cases h2
    exact ⟨j, k, s, x, hs, hj, h1, ho⟩
  have hunl : ∀ (i : Nat) x b, (∀ (k : Nat) s, σ[k]? = some s → srcOf s ≠ some i) → envB[i]? = some x → x.owns b → ¬ owned envc0 b := fun i x b hu hx ho hc => by
    obtain ⟨i', k, s, y, h1, h2, h3, h4⟩ := hown0 b hc
    have := hh.disj i i' x y b hx h3 ho h4
    subst this
    exact hu k s h1 h2
  have hunc : ∀ (i : Nat) x b, (∀ (k : Nat) s, σ[k]? = some s → srcOf s ≠ some i) → envB[i]? = some x → x.owns b → ¬ owned envc b := fun i x b hu hx ho hc => by
    rcases hst.fresh b hc with h1 | h1
    · exact hunl i x b hu hx ho h1
    · have := hh.lt b ⟨i, x, hx, ho⟩; omega
  have hown : ∀ b, owned (layB envB σ envc ++ apd .dead σ envc) b → (∃ (i : Nat) (x : Wit), (∀ (k : Nat) s, σ[k]? = some s → srcOf s ≠ some i) ∧ envB[i]? = some x ∧ x.owns b) ∨ owned envc b := fun b ⟨i, x, hx, ho⟩ => by
    rcases hcases i x hx with ⟨_, h1, h2⟩ | ⟨k, _, _, h2⟩ | ⟨h1, _⟩
    · exact .inl ⟨i, x, h1, h2, ho⟩
    · exact .inr ⟨k, x, h2, ho⟩
    · rw [h1] at ho; exact ho.elim
  have hEE : ∀ k, k < hout.length → (layB envB σ envc ++ apd .dead σ envc)[place σ shB.length k]? = envc[k]? := fun k hk => by
    rw [lay_at hN hd hlt (List.getElem?_eq_getElem (by omega))]; exact (List.getElem?_eq_getElem (by omega)).symm
  have hTT : (∀ b, ¬ O' b → ¬ owned envc b → ¬ O b ∧ ¬ owned (layB envB σ envc ++ apd .dead σ envc) b) ∨ (ownV res = true ∧ ownOs hout = true) := hT.imp (fun h b h1 h2 => ⟨(h b h1 h2).1, fun h3 => by
    rcases hown b h3 with ⟨i, x, hu, h4, h5⟩ | h4
    · obtain ⟨k, s, h6, h7⟩ := (h b h1 h2).2 i x h4 h5
      exact hu k s h6 h7
    · exact h2 h4⟩) id
  have hstep : Step envB w (layB envB σ envc ++ apd .dead σ envc) w' := by
    refine ⟨hst.os, hst.tape, hst.output, hst.size, by rw [List.length_append, layB_len]; omega, fun i x hx => ?_, fun b hb => ?_, fun b hb hn => hst.cells b hb (fun hc => ?_)⟩
    · by_cases hex : ∃ (k : Nat) (s : SV A), σ[k]? = some s ∧ srcOf s = some i
      · obtain ⟨k, s, hs, hj⟩ := hex
        obtain ⟨y, h1, h2⟩ := h0 k s i hs hj
        rw [hx] at h1; cases h1
        obtain ⟨z, h3, h4⟩ := hst.keep k x h2
        refine ⟨z, ?_, h4⟩
        have := lay_at (d := Wit.dead) hN hd hlt h3
        have hp : place σ shB.length k = i := by unfold place; rw [nth_eq, hs]; simp only [hj]
        rwa [hp] at this
      · refine ⟨x, ?_, .refl x⟩
        rw [lay_out hN (by have := (List.getElem?_eq_some_iff.1 hx).1; omega) (fun k s h1 h2 => hex ⟨k, s, h1, h2⟩)]; exact hx
    · rcases hown b hb with ⟨i, x, _, h1, h2⟩ | h1
      · exact .inl ⟨i, x, h1, h2⟩
      · rcases hst.fresh b h1 with h2 | h2
        · obtain ⟨i, _, _, x, _, _, h3, h4⟩ := hown0 b h2
          exact .inl ⟨i, x, h3, h4⟩
        · exact .inr h2
    · obtain ⟨i, _, _, x, _, _, h3, h4⟩ := hown0 b hc
      exact hn ⟨i, x, h3, h4⟩
  refine ⟨⟨?_, fun i so x h1 h2 => ?_, fun i j x y b h1 h2 hx hy => ?_, fun b hb => ?_, fun b hb => ?_, fun b hb => Nat.lt_of_lt_of_le (hh.olt b hb) hst.size⟩, hstep, ?_⟩
  · simp [layB_len, apd_len, hh.len, hcl]
  · rcases hcases i x h2 with ⟨hi, hu, h3⟩ | ⟨k, hk, rfl, h3⟩ | ⟨rfl, k, s, j, hk, rfl, hs, hj⟩
    · rw [lay_out rfl hi hu] at h1
      exact (hh.rep i so x h1 h3).step hstep (fun b hb => hst.cells b (hh.lt b ⟨i, x, h3, hb⟩) (hunl i x b hu h3 hb))
    · have hk' : k < hout.length := by omega
      have h4 : (hout.map (renO (place σ shB.length)))[k]? = some (renO (place σ shB.length) hout[k]) := by rw [List.getElem?_map, List.getElem?_eq_getElem hk']; rfl
      rw [lay_at rfl hd hlt h4] at h1
      cases h1
      refine (hhc.rep k _ x (List.getElem?_eq_getElem hk') h3).ren2 hC hEE (hTT.imp id fun h => ownOs_get h.2 k _ (List.getElem?_eq_getElem hk')) (belowOs_get hbo k _ (List.getElem?_eq_getElem hk'))
    · have hk' : k < hout.length := by omega
      have h4 : (hout.map (renO (place σ shB.length)))[k]? = some (renO (place σ shB.length) hout[k]) := by rw [List.getElem?_map, List.getElem?_eq_getElem hk']; rfl
      rw [lay_dead rfl h4 hs hj] at h1
      cases h1
      exact rfl
  · rcases hcases i x h1 with ⟨_, hu, h3⟩ | ⟨k, _, rfl, h3⟩ | ⟨rfl, _⟩
    · rcases hcases j y h2 with ⟨_, hu', h4⟩ | ⟨k', _, rfl, h4⟩ | ⟨rfl, _⟩
      · exact hh.disj i j x y b h3 h4 hx hy
      · exact (hunc i x b hu h3 hx ⟨k', y, h4, hy⟩).elim
      · exact hy.elim
    · rcases hcases j y h2 with ⟨_, hu', h4⟩ | ⟨k', _, rfl, h4⟩ | ⟨rfl, _⟩
      · exact (hunc j y b hu' h4 hy ⟨k, x, h3, hx⟩).elim
      · rw [hhc.disj k k' x y b h3 h4 hx hy]
      · exact hy.elim
    · exact hx.elim
  · rcases hown b hb with ⟨i, x, _, h1, h2⟩ | h1
    · exact hh.out b ⟨i, x, h1, h2⟩
    · exact fun h2 => hhc.out b h1 (hOO b h2)
  · rcases hown b hb with ⟨i, x, _, h1, h2⟩ | h1
    · exact Nat.lt_of_lt_of_le (hh.lt b ⟨i, x, h1, h2⟩) hst.size
    · exact hhc.lt b h1
  · exact hr.ren2 hC hEE (hTT.imp id fun h => h.1) hbv
end

theorem letGo_len {sh sh' : List (SO A)} {s s' : SV A} (h : letGo sh s = some (s', sh')) : sh'.length = sh.length := by
  unfold letGo at h
  split at h
  · split at h <;> first | (cases h; done) | (cases h; simp [setNth_eq])
  · cases h; rfl
theorem letGoL_len : ∀ {cs cs' : SL A} {sh sh' : List (SO A)}, letGoL sh cs = some (cs', sh') → sh'.length = sh.length
  | .nil, _, _, _, h => by simp [letGoL] at h; simp [h.2]
  | .cell s r, _, _, _, h => by
    simp only [letGoL] at h
    split at h
    · rename_i h1
      split at h
      · rename_i h2
        cases h
        rw [letGoL_len h2, letGo_len h1]
      · cases h
    · cases h
  | .run k n xs r, _, _, _, h => by
    simp only [letGoL] at h
    split at h
    · rename_i h1; cases h; exact letGoL_len h1
    · cases h
theorem letGoV_len {sh sh' : List (SO A)} {s s' : SV A} (h : letGoV sh s = some (s', sh')) : sh'.length = sh.length := by
  unfold letGoV at h
  split at h
  · split at h
    · rename_i h1; cases h; exact letGoL_len h1
    · cases h
  · exact letGo_len h
theorem endS_len2 : ∀ {ws l l' : List (SV A)} {s s' : List (SO A)}, endS s ws l = some (l', s') → s'.length = s.length
  | [], [], _, _, _, h => by simp [endS] at h; simp [h.2]
  | x :: ws, y :: l, _, _, _, h => by
    simp only [endS] at h
    split at h
    · rename_i h1
      split at h
      · rename_i h2
        cases h
        rw [endS_len2 h2]
        unfold end1 at h1
        split at h1
        · cases h1; rfl
        · cases h1; rfl
        · exact letGoV_len h1
      · cases h
    · cases h
  | [], _ :: _, _, _, _, h => by simp [endS] at h
  | _ :: _, [], _, _, _, h => by simp [endS] at h
theorem endS_len {sh sh' : List (SO A)} : ∀ {ws l l' : List (SV A)} {s s' : List (SO A)}, endS s ws l = some (l', s') → ws.length = l.length ∧ l'.length = l.length
  | [], [], _, _, _, h => by simp [endS] at h; simp [h.1]
  | x :: ws, y :: l, _, _, _, h => by
    simp only [endS] at h
    split at h
    · split at h
      · rename_i h2
        cases h
        have := endS_len (sh := sh) (sh' := sh') h2
        simp [this.1, this.2]
      · cases h
    · cases h
  | [], _ :: _, _, _, _, h => by simp [endS] at h
  | _ :: _, [], _, _, _, h => by simp [endS] at h

section
variable {O O2 : Nat → Prop} {env env' : List Wit} {w : World} {C : Enc A}
/-- Arguments, as a callee is handed them. -/
theorem args_arr {σ : List (SV A)} {sh : List (SO A)} (hC : ∀ t y, belowL 0 (C.enc t y) = true) (hh : HR O env w C sh) (hc : Arr 0 σ env env') (hO : ∀ b, ¬ O b → ¬ owned env b → ¬ O2 b ∧ ¬ owned env' b) {ts : List (SV A)} :
    ∀ {l : List (SV A)} {n : Nat} {us vs : List Value}, ArgsR O env w C ts us → us.drop n = vs → l.length = vs.length → (∀ p ∈ slotsFrom n l, okV 0 σ p.2 = true) → (∀ p ∈ slotsFrom n l, slotIs 0 σ ts sh p.1 p.2) → ArgsR O2 env' w C l vs
  | [], n, us, vs, _, _, hl, _, _ => List.eq_nil_of_length_eq_zero hl.symm
  | s :: l, n, us, [], _, _, hl, _, _ => by simp at hl
  | s :: l, n, us, v :: vs, ha, hd, hl, hok, hsl => by
    have h1 := hsl (n, s) List.mem_cons_self
    unfold slotIs at h1
    split at h1
    case h_2 => exact h1.elim
    rename_i s' hs'
    rw [nth_eq] at hs'
    obtain ⟨u, hu, hr⟩ := (argsR_get ha).2 n s' hs'
    have hv : us[n]? = some v := by
      have h2 : (us.drop n)[0]? = some v := by rw [hd]; rfl
      simpa using h2
    rw [hu] at hv; cases hv
    refine ⟨v, vs, rfl, (eqv_rep h1 (rslV_rep hh hr)).arr2 hC hc hO _ (hok (n, s) List.mem_cons_self), args_arr hC hh hc hO ha (n := n + 1) ?_ (by simpa using hl) (fun p hp => hok p (List.mem_cons_of_mem _ hp)) (fun p hp => hsl p (List.mem_cons_of_mem _ hp))⟩
    rw [← List.drop_drop, hd]; rfl
end

section
variable {E : Eng A}
/-- A function does what its contract says, called from anywhere. -/
theorem meets_lent (hS : Sound E) (hG : ∀ g cs, E.GL g = some cs → belowL 0 cs = true) {f : FuncId} {fn : Func} {body : Code} (hf : E.P.funcs[f]? = some fn) (hname : (fn.name == "runtime.NumGoroutine") = false) (hb : fn.body = some body) {L : LS A} {ann : L.X → Anns A} {get : List (SV A) → List (SO A) → Option L.X}
    (hL : fnS E fn body L ann) (hle : ∀ x, L.pre x → (L.hin x).length ≤ (L.hout x).length) (q : Bool) (hq : q = true → ∀ x, L.hin x = []) : Meets E.P E.C E.GL q f (tLent L get) := by
  intro args sh K hk O env w vs ha hh hg
  have hC := hS.below 0
  unfold tLent at hk
  split at hk
  case h_1 => exact hk.elim
  rename_i x hx
  split at hk
  case h_1 => exact hk.elim
  rename_i args' sh1 hend
  split at hk
  case h_1 => exact hk.elim
  rename_i σ hσ
  split at hk
  case isFalse => exact hk.elim
  rename_i hokM
  split at hk
  case isFalse => exact hk.elim
  rename_i hokS
  split at hk
  case isFalse => exact hk.elim
  rename_i hdis
  obtain ⟨hsl, hmore, hpre, hk⟩ := hk
  obtain ⟨env1, hh1, hs1, ha1⟩ := endS_spec (E := E) hh hend ha
  obtain ⟨hd1, hd2⟩ := distinct_get hdis
  obtain ⟨hml, hmget⟩ := moreIs_get hmore
  -- what is lent
  have hO2 : ∀ b, ¬ O b → ¬ owned env1 b → ¬ (O b ∨ (owned env1 b ∧ ¬ owned (arrEnv ([] : List (SO A)) σ env1) b)) := fun b h1 h2 h3 => h3.elim h1 (fun h => h2 h.1)
  obtain ⟨hhc, harr⟩ := heap_arr2 (O2 := fun b => O b ∨ (owned env1 b ∧ ¬ owned (arrEnv ([] : List (SO A)) σ env1) b)) (P := []) hC hh1 hdis hO2
    (fun b h1 h2 => h2.elim (hh1.out b (arrEnv_sub b h1)) (fun h => h.2 h1)) (fun b h => h.elim (hh1.olt b) (fun h => hh1.lt b h.1)) rfl hokM trivial hmore
  rw [List.nil_append] at hhc
  have hO : ∀ b, ¬ O b → ¬ owned env1 b → ¬ (O b ∨ (owned env1 b ∧ ¬ owned (arrEnv ([] : List (SO A)) σ env1) b)) ∧ ¬ owned (arrEnv ([] : List (SO A)) σ env1) b := fun b h1 h2 => ⟨hO2 b h1 h2, fun h3 => h2 (arrEnv_sub b h3)⟩
  have hgc : Glob E.GL (fun b => O b ∨ (owned env1 b ∧ ¬ owned (arrEnv ([] : List (SO A)) σ env1) b)) (arrEnv ([] : List (SO A)) σ env1) w E.C := fun g cs h => (hg.step hs1 g cs h).closed hC hO (by simp only [belowV]; exact hG g cs h)
  have hel := endS_len (sh := sh) (sh' := sh) hend
  have hargs := args_arr (l := L.args x) (n := 0) (vs := vs) hC hh1 harr hO ha1 rfl (by rw [hel.1]; exact (argsR_get ha).1) (fun p hp => okSlots_get hokS p hp) (fun p hp => slotsAre_get hsl p hp)
  have hcall := fn_local hS hf hname hb hL hle hpre hargs hhc hgc
  -- where it came from
  have hl0 : (arrEnv ([] : List (SO A)) σ env1).length = σ.length := by simp [arrEnv, cutEnv]
  have hget0 : ∀ (k : Nat), (arrEnv ([] : List (SO A)) σ env1)[k]? = (σ[k]?).map (srcWit env1) := fun k => by simp [arrEnv, cutEnv]
  have h0' : ∀ (k : Nat) x b, (arrEnv ([] : List (SO A)) σ env1)[k]? = some x → x.owns b → ∃ s j, σ[k]? = some s ∧ srcOf s = some j := fun k x b hx ho => by
    rw [hget0] at hx
    cases hs : σ[k]? with
    | none => rw [hs] at hx; simp at hx
    | some s =>
      rcases hd1 k s hs with ⟨j, _, h2, _⟩ | h1
      · exact ⟨s, j, rfl, h2⟩
      · rw [hs, h1] at hx
        simp only [Option.map_some, srcWit, Option.some.injEq] at hx
        subst hx
        simp [Wit.owns, Value.ownBlock] at ho
  have h01 : ∀ (k : Nat) s j, σ[k]? = some s → srcOf s = some j → ∃ x, env1[j]? = some x ∧ (arrEnv ([] : List (SO A)) σ env1)[k]? = some x ∧ x ≠ .dead ∧ ∀ v, x ≠ .ro v := fun k s j hs hj => by
    have hk' : k < (L.hin x).length := by rw [hml]; exact (List.getElem?_eq_some_iff.1 hs).1
    have hlk := List.getElem?_eq_getElem hk'
    have hmo := hmget k _ s hlk hs
    have hwk : (arrEnv ([] : List (SO A)) σ env1)[k]? = some (srcWit env1 s) := by rw [hget0, hs]; rfl
    have horep := hhc.rep k _ _ hlk hwk
    have hne : srcWit env1 s ≠ .dead ∧ ∀ v, srcWit env1 s ≠ .ro v := by
      generalize srcWit env1 s = y at horep
      generalize (L.hin x)[k] = a at horep hmo
      unfold more1 at hmo
      split at hmo
      all_goals first | exact hmo.elim | skip
      all_goals
        refine ⟨fun e => ?_, fun v e => ?_⟩ <;> subst e <;> exact horep.elim
    have : srcWit env1 s = match env1[j]? with | some x => x | none => .dead := by
      unfold srcOf at hj
      split at hj
      · cases hj; rfl
      · cases hj; rfl
      · cases hj
    cases hj1 : env1[j]? with
    | none => rw [hj1] at this; exact (hne.1 this).elim
    | some y =>
      rw [hj1] at this
      simp only at this
      rw [this] at hwk hne
      exact ⟨y, rfl, hwk, hne.1, hne.2⟩
  intro o a next Q hn
  refine hcall o a next Q (fun v w' ⟨envc, hr, hhr, hst, hbv, hbo⟩ => hn v w' ?_)
  have fin : ∀ (shB : List (SO A)) (envB : List Wit), HR O envB w E.C shB → shB.length = sh.length → Step env w envB w →
      (∀ (k : Nat) s j, σ[k]? = some s → srcOf s = some j → ∃ x, envB[j]? = some x ∧ (arrEnv ([] : List (SO A)) σ env1)[k]? = some x) →
      ((∀ b, ¬ (O b ∨ (owned env1 b ∧ ¬ owned (arrEnv ([] : List (SO A)) σ env1) b)) → ¬ owned envc b → ¬ O b ∧ ∀ (i : Nat) x, envB[i]? = some x → x.owns b → ∃ (k : Nat) (s : SV A), σ[k]? = some s ∧ srcOf s = some i) ∨ (ownV (resV (L.res x)) = true ∧ ownOs (L.hout x) = true)) →
      K (ren (place σ (cnt sh)) (resV (L.res x))) (joinL (layB shB σ (renOs (place σ (cnt sh)) (L.hout x))) (apd .dead σ (renOs (place σ (cnt sh)) (L.hout x)))) →
      Left O E.C q env w K v w' := by
    intro shB envB hhB hlB hsB h0 hT hkB
    obtain ⟨h1, h2, h3⟩ := put_back hC hhB hd2 h0 h0' hl0 (fun b h => .inl h) hhr hst hbv hbo hr hT
    rw [cnt_eq, joinL_eq, renOs_eq, ← hlB] at hkB
    refine ⟨_, _, _, h3, h1, hsB.trans h2, fun h => ⟨hst.size, fun b hb => hst.cells b hb (fun ⟨k, x, hx, _⟩ => ?_)⟩, hkB⟩
    have h4 : σ.length = 0 := by rw [← hml, hq h]; rfl
    have h5 := (List.getElem?_eq_some_iff.1 hx).1
    omega
  have hlen1 : sh1.length = sh.length := by
    have h1 : env.length ≤ env1.length := hs1.elen
    have h2 := endS_len2 hend
    exact h2
  by_cases hown : ownV (resV (L.res x)) = true ∧ ownOs (L.hout x) = true
  · rw [if_pos hown.1, if_pos hown.2] at hk
    refine fin sh env hh rfl (Step.refl _ _) (fun k s j hs hj => ?_) (.inr hown) hk
    obtain ⟨y, h1, h2, h3, h4⟩ := h01 k s j hs hj
    have hj' : j < env.length := by
      have h5 := (List.getElem?_eq_some_iff.1 h1).1
      have h6 := hh1.len
      have h7 := hh.len
      omega
    obtain ⟨z, h5, h6⟩ := hs1.keep j _ (List.getElem?_eq_getElem hj')
    rw [h1] at h5; cases h5
    refine ⟨_, List.getElem?_eq_getElem hj', ?_⟩
    rcases h6 with e | e | ⟨u, _, e⟩
    · rw [h2, e]
    · exact (h3 e).elim
    · exact (h4 u e).elim
  · have hk' : K (ren (place σ (cnt sh)) (resV (L.res x))) (joinL (layB sh1 σ (renOs (place σ (cnt sh)) (L.hout x))) (apd .dead σ (renOs (place σ (cnt sh)) (L.hout x)))) := by
      by_cases h1 : ownV (resV (L.res x)) = true
      · rw [if_pos h1, if_neg (fun h2 => hown ⟨h1, h2⟩)] at hk; exact hk
      · rw [if_neg h1] at hk; exact hk
    refine fin sh1 env1 hh1 hlen1 hs1 (fun k s j hs hj => by obtain ⟨y, h1, h2, _⟩ := h01 k s j hs hj; exact ⟨y, h1, h2⟩) (.inl fun b h1 h2 => ⟨fun h3 => h1 (.inl h3), fun i y h3 h4 => ?_⟩) hk'
    by_cases hc : owned (arrEnv ([] : List (SO A)) σ env1) b
    · obtain ⟨k, z, hz, hzo⟩ := hc
      obtain ⟨s, j, hs, hj⟩ := h0' k z b hz hzo
      obtain ⟨z', h5, h6, _⟩ := h01 k s j hs hj
      rw [hz] at h6; cases h6
      have := hh1.disj i j y z b h3 h5 h4 hzo
      subst this
      exact ⟨k, s, hs, hj⟩
    · exact (h1 (.inr ⟨⟨i, y, h3, h4⟩, hc⟩)).elim

/-- A call that is walked where it stands. -/
def tInline (E : Eng A) (fn : Func) (body : Code) (ann : Anns A) : SpecT A := fun args sh K => codeS E ann body (fun e ts sh' _ => match e with
  | .exit _ => False
  | _ => resS E ts sh' fn.results.toList fun l => K (resV l) sh') (nameAll 0 args ++ padJ (fn.ntmps - cnt args)) sh (cnt args)
theorem meets_inline (hS : Sound E) {f : FuncId} {fn : Func} {body : Code} (hf : E.P.funcs[f]? = some fn) (hname : (fn.name == "runtime.NumGoroutine") = false) (hb : fn.body = some body) {ann : Anns A} : Meets E.P E.C E.GL false f (tInline E fn body ann) := by
  intro args sh K hk O env w vs ha hh hg
  refine callR_of_calls hf hname hb (calls_of_wp hf hb (wp_mono (codeS_sound hS (WF.start _ _) (rel_start ha hh hg) hk) (fun e a' w' he => ?_)))
  obtain ⟨ex, ts', sh', env', n', h1, h2, h3, h4, h5, h6⟩ := he
  have key : (resS E ts' sh' fn.results.toList fun l => K (resV l) sh') → a'.defers = [] ∧ ∃ v, (results fn a'.tmps).run E.P w' = .ok v w' ∧ Left O E.C false env w K v w' := by
    intro hk
    obtain ⟨ss, v, hK, hrun, vs, h7, rfl⟩ := run_results h2 hk
    exact ⟨h2.defers, _, hrun, _, sh', env', resV_rep h7, h2.heap, h3, fun h => by simp at h, hK⟩
  cases ex with
  | exit i => exact h6.elim
  | normal =>
    cases e <;> simp [exOf] at h1
    obtain ⟨h7, v, h8, h9⟩ := key h6
    exact ⟨h7, v, h8, h9⟩
  | ret =>
    cases e <;> simp [exOf] at h1
    obtain ⟨h7, v, h8, h9⟩ := key h6
    exact ⟨h7, v, h8, h9⟩
end
end Go.Eng
