/- The engine is right: where code arrives. Conditions: none. -/
import Derived.Test.YtcglahfmnoghjaaDoorE19
import Derived.LoopN
namespace Go.Eng
open Go
variable {A : Nat → Type}

theorem joinL_eq {α : Type _} : ∀ l m : List α, joinL l m = l ++ m
  | [], _ => rfl
  | x :: l, m => by simp [joinL, joinL_eq l m]


section
variable {O O2 : Nat → Prop} {env env2 : List Wit} {env' : List Wit} {w : World} {C : Enc A}

theorem ite_tt {p : Prop} [Decidable p] (h : (if p then true else false) = true) : p := by
  split at h
  · assumption
  · cases h
theorem ite_and {p q : Bool} (h : (if p = true then q else false) = true) : p = true ∧ q = true := by
  split at h
  · exact ⟨by assumption, h⟩
  · cases h

theorem ROat.far (hO : ∀ b, ¬ O b → ¬ owned env b → ¬ O2 b ∧ ¬ owned env2 b) {a : Option Addr} {vs : List Value} (h : ROat O env w a vs) : ROat O2 env2 w a vs := by
  rcases h with h | ⟨b, o, ha, hb, he, hc⟩
  · exact .inl h
  · exact .inr ⟨b, o, ha, (hO b hb he).1, (hO b hb he).2, hc⟩

mutual
/-- What speaks of no entry is so in every heap that owns no more. -/
theorem Rep.closed (hC : ∀ t y, belowL 0 (C.enc t y) = true) (hO : ∀ b, ¬ O b → ¬ owned env b → ¬ O2 b ∧ ¬ owned env2 b) : ∀ {s : SV A} {v : Value}, belowV 0 s = true → Rep O env w C s v → Rep O2 env2 w C s v
  | _, _, _, .junk => .junk
  | _, _, _, .undef => .undef
  | _, _, _, .val => .val
  | _, _, _, .int => .int
  | _, _, _, .lit => .lit
  | _, _, _, .bl => .bl
  | _, _, _, .sb => .sb
  | _, _, hb, .ptr h => absurd (ite_tt (by simp only [belowV] at hb; exact hb)) (Nat.not_lt_zero _)
  | _, _, hb, .aptr h => absurd (ite_tt (by simp only [belowV] at hb; exact hb)) (Nat.not_lt_zero _)
  | _, _, hb, .asl h => absurd (ite_tt (by simp only [belowV] at hb; exact hb)) (Nat.not_lt_zero _)
  | _, _, hb, .vec h => absurd (ite_tt (by simp only [belowV] at hb; exact hb)) (Nat.not_lt_zero _)
  | _, _, hb, .vptr h => absurd (ite_tt (by simp only [belowV] at hb; exact hb)) (Nat.not_lt_zero _)
  | _, _, hb, .rptr b o vs h1 h2 hl hcl h => .rptr b o vs (hO b h1 h2).1 (hO b h1 h2).2 hl hcl (RepL.closed hC hO (by simp only [belowV] at hb; exact hb) h)
  | _, _, _, .rints a c h1 h2 h => .rints a c h1 h2 (h.far hO)
  | _, _, _, .rseq a c vs h1 h2 h3 h hx => .rseq a c vs h1 h2 h3 (h.far hO) (fun j x hj => RepL.closed hC hO (hC _ _) (hx j x hj))
  | _, _, hb, .iface h => .iface (Rep.closed hC hO (by simp only [belowV] at hb; exact hb) h)
  | _, _, _, .err h => .err h
  | _, _, hb, .fn us vs ha hb' => .fn us vs (RepL.closed hC hO (by simp only [belowV] at hb; exact (ite_and hb).1) ha) (RepL.closed hC hO (by simp only [belowV] at hb; exact (ite_and hb).2) hb')
  | _, _, hb, .agg vs h => .agg vs (RepL.closed hC hO (by simp only [belowV] at hb; exact hb) h)
  | _, _, hb, .tup vs h => .tup vs (RepL.closed hC hO (by simp only [belowV] at hb; exact hb) h)
theorem RepL.closed (hC : ∀ t y, belowL 0 (C.enc t y) = true) (hO : ∀ b, ¬ O b → ¬ owned env b → ¬ O2 b ∧ ¬ owned env2 b) : ∀ {cs : SL A} {vs : List Value}, belowL 0 cs = true → RepL O env w C cs vs → RepL O2 env2 w C cs vs
  | _, _, _, .nil => .nil
  | _, _, hb, .cell h hr => .cell (Rep.closed hC hO (by simp only [belowL] at hb; exact (ite_and hb).1) h) (RepL.closed hC hO (by simp only [belowL] at hb; exact (ite_and hb).2) hr)
  | _, _, hb, .run hn hr => .run hn (RepL.closed hC hO (by simp only [belowL] at hb; exact hb) hr)
end

theorem eqo_rep {a b : SO A} {x : Wit} (hd : a ≠ .dead) (h : eqo a b) (hr : ORep O env w C b x) : ORep O env w C a x := by
  unfold eqo at h
  split at h
  · exact absurd rfl hd
  · split at h
    · rename_i e
      subst e
      cases x with
      | blk b => obtain ⟨vs, h1, h2⟩ := hr; exact ⟨vs, h1, eqvL_rep h h2⟩
      | dead => exact hr
      | ro v => exact hr
      | sl v => exact hr
    · exact h.elim
  · split at h
    · rename_i e
      subst e
      split at h
      · rename_i e; subst e; subst h; exact hr
      · exact h.elim
    · exact h.elim
  · split at h
    · rename_i e; subst e; subst h; exact hr
    · exact h.elim
  · subst h; exact hr


/-- Entries that are wanted, the first n where they are, the others wherever they are. -/
structure Arr (n : Nat) (σ : List (SV A)) (env env' : List Wit) : Prop where
  keep : ∀ (i : Nat) x, i < n → env[i]? = some x → env'[i]? = some x ∨ env'[i]? = some .dead
  vec : ∀ k j, σ[k]? = some (.vec j) → env'[n + k]? = env[j]?
  ptr : ∀ k j o, σ[k]? = some (.ptr j o) → env'[n + k]? = env[j]?
  nil : ∀ k, σ[k]? = some (.val (.slice none 0 0)) → env'[n + k]? = some (.sl (.slice none 0 0))
  own : ∀ b, owned env' b → owned env b

section
variable {n : Nat} {σ : List (SV A)}
theorem Arr.blk (hc : Arr n σ env env') {i : Nat} (hi : i < n) {P : Nat → Prop} (h : blkAt env i P) : blkAt env' i P := by
  unfold blkAt at *
  cases hx : env[i]? with
  | none => simp [hx] at h
  | some x =>
    rw [hx] at h
    rcases hc.keep i x hi hx with h1 | h1 <;> rw [h1]
    · exact h
    · trivial
theorem Arr.sl (hc : Arr n σ env env') {i : Nat} (hi : i < n) {P : Value → Prop} (h : slAt env i P) : slAt env' i P := by
  unfold slAt at *
  cases hx : env[i]? with
  | none => simp [hx] at h
  | some x =>
    rw [hx] at h
    rcases hc.keep i x hi hx with h1 | h1 <;> rw [h1]
    · exact h
    · trivial

mutual
theorem Rep.arr2 (hC : ∀ t y, belowL 0 (C.enc t y) = true) (hc : Arr n σ env env') (hO : ∀ b, ¬ O b → ¬ owned env b → ¬ O2 b ∧ ¬ owned env' b) : ∀ (s : SV A) {v : Value}, okV n σ s = true → Rep O env w C (sub n σ s) v → Rep O2 env' w C s v
  | .junk, _, _, _ => .junk
  | .undef, _, _, h => by simp only [sub] at h; rw [h.inv_undef]; exact .undef
  | .val u, _, _, h => by simp only [sub] at h; rw [h.inv_val]; exact .val
  | .int k m, _, _, h => by simp only [sub] at h; rw [h.inv_int]; exact .int
  | .lit k m, _, _, h => by simp only [sub] at h; rw [h.inv_lit]; exact .lit
  | .bl b, _, _, h => by simp only [sub] at h; rw [h.inv_bl]; exact .bl
  | .sb i b, _, _, h => by simp only [sub] at h; rw [h.inv_sb]; exact .sb
  | .ptr i o, v, hb, h => by
    simp only [okV] at hb
    simp only [sub] at h
    split at hb
    · rename_i hi
      rw [if_pos hi] at h
      exact .ptr (hc.blk hi h.inv_ptr)
    · rename_i hi
      rw [if_neg hi] at h
      unfold ptrSrc at hb
      rw [nth_eq] at hb h
      split at hb
      · rename_i j hj
        rw [hj] at h
        simp only at h
        have h1 := h.inv_ptr
        have h2 := hc.ptr _ _ _ hj
        rw [show n + (i - n) = i from by omega] at h2
        refine .ptr ?_
        unfold blkAt at h1 ⊢
        rw [h2]; exact h1
      · cases hb
  | .aptr i o m j, v, hb, h => by simp only [sub] at h; simp only [okV] at hb; exact .aptr (hc.blk (ite_tt hb) h.inv_aptr)
  | .asl i o m, v, hb, h => by simp only [sub] at h; simp only [okV] at hb; exact .asl (hc.blk (ite_tt hb) h.inv_asl)
  | .vptr i j s o, v, hb, h => by simp only [sub] at h; simp only [okV] at hb; exact .vptr (hc.sl (ite_tt hb) h.inv_vptr)
  | .vec i, v, hb, h => by
    simp only [okV] at hb
    simp only [sub] at h
    split at hb
    · rename_i hi
      rw [if_pos hi] at h
      exact .vec (hc.sl hi h.inv_vec)
    · rename_i hi
      rw [if_neg hi] at h
      unfold vecSrc at hb
      rw [nth_eq] at hb h
      split at hb
      · rename_i j hj
        rw [hj] at h
        simp only at h
        have h1 := h.inv_vec
        have h2 := hc.vec _ _ hj
        rw [show n + (i - n) = i from by omega] at h2
        refine .vec ?_
        unfold slAt at h1 ⊢
        rw [h2]; exact h1
      · rename_i hj
        rw [hj] at h
        simp only at h
        have h1 := h.inv_val
        have h2 := hc.nil _ hj
        rw [show n + (i - n) = i from by omega] at h2
        refine .vec ?_
        unfold slAt
        rw [h2]; exact h1
      · cases hb
  | .rptr cs o, v, hb, h => by
    simp only [sub] at h; simp only [okV] at hb
    obtain ⟨b, o', vs, rfl, h1, h2, h3, h4, h5⟩ := h.inv_rptr
    exact .rptr b o' vs (hO b h1 h2).1 (hO b h1 h2).2 h3 h4 (RepL.arr2 hC hc hO cs hb h5)
  | .rints k xs, v, _, h => by
    simp only [sub] at h
    obtain ⟨x, c, rfl, h1, h2, h3⟩ := h.inv_rints
    exact .rints x c h1 h2 (h3.far hO)
  | .rseq t xs, v, _, h => by
    simp only [sub] at h
    obtain ⟨x, c, vs, rfl, h1, h2, h3, h4, h5⟩ := h.inv_rseq
    exact .rseq x c vs h1 h2 h3 (h4.far hO) (fun j y hj => (h5 j y hj).closed hC hO (hC _ _))
  | .iface t s, v, hb, h => by
    simp only [sub] at h; simp only [okV] at hb
    obtain ⟨u, rfl, h1⟩ := h.inv_iface
    exact .iface (Rep.arr2 hC hc hO s hb h1)
  | .err t m, v, _, h => by simp only [sub] at h; exact .err h.inv_err
  | .fn f x y, v, hb, h => by
    simp only [sub] at h; simp only [okV] at hb
    obtain ⟨us, vs, rfl, h1, h2⟩ := h.inv_fn
    exact .fn us vs (RepL.arr2 hC hc hO x (ite_and hb).1 h1) (RepL.arr2 hC hc hO y (ite_and hb).2 h2)
  | .agg cs, v, hb, h => by
    simp only [sub] at h; simp only [okV] at hb
    obtain ⟨us, rfl, h1⟩ := h.inv_agg
    exact .agg us (RepL.arr2 hC hc hO cs hb h1)
  | .tup cs, v, hb, h => by
    simp only [sub] at h; simp only [okV] at hb
    obtain ⟨us, rfl, h1⟩ := h.inv_tup
    exact .tup us (RepL.arr2 hC hc hO cs hb h1)
theorem RepL.arr2 (hC : ∀ t y, belowL 0 (C.enc t y) = true) (hc : Arr n σ env env') (hO : ∀ b, ¬ O b → ¬ owned env b → ¬ O2 b ∧ ¬ owned env' b) : ∀ (cs : SL A) {vs : List Value}, okL n σ cs = true → RepL O env w C (subL n σ cs) vs → RepL O2 env' w C cs vs
  | .nil, _, _, h => by simp only [subL] at h; rw [h.inv_nil]; exact .nil
  | .cell s r, _, hb, h => by
    simp only [subL] at h; simp only [okL] at hb
    obtain ⟨u, us, rfl, h1, h2⟩ := h.inv_cell
    exact .cell (Rep.arr2 hC hc hO s (ite_and hb).1 h1) (RepL.arr2 hC hc hO r (ite_and hb).2 h2)
  | .run k m xs r, _, hb, h => by
    simp only [subL] at h; simp only [okL] at hb
    obtain ⟨us, hn, rfl, h1⟩ := h.inv_run
    exact .run hn (RepL.arr2 hC hc hO r hb h1)
end

theorem ORep.arr2 (hC : ∀ t y, belowL 0 (C.enc t y) = true) (hc : Arr n σ env env') (hO : ∀ b, ¬ O b → ¬ owned env b → ¬ O2 b ∧ ¬ owned env' b) {a : SO A} {x : Wit} (hb : okO n σ a = true) (h : ORep O env w C (subO n σ a) x) : ORep O2 env' w C a x := by
  cases a with
  | dead => exact h
  | cells e cs =>
    cases x with
    | blk b => obtain ⟨vs, h1, h2⟩ := h; exact ⟨vs, h1, h2.arr2 hC hc hO cs hb⟩
    | dead => exact h
    | ro v => exact h
    | sl v => exact h
  | fr s => cases x with
    | ro v => exact Rep.arr2 hC hc hO s hb h
    | dead => exact h
    | blk v => exact h
    | sl v => exact h
  | ivec e k xs => cases x <;> exact h
  | svec e xs =>
    cases x with
    | sl v => obtain ⟨vs, h1, h2⟩ := h; exact ⟨vs, h1, fun j y hj => (h2 j y hj).closed hC hO (hC _ _)⟩
    | dead => exact h
    | ro v => exact h
    | blk b => exact h
theorem Arr.same (hc : Arr n σ env env') : ∀ b, ¬ O b → ¬ owned env b → ¬ O b ∧ ¬ owned env' b := fun b h4 h5 => ⟨h4, fun h6 => h5 (hc.own b h6)⟩
theorem Rep.arr (hC : ∀ t y, belowL 0 (C.enc t y) = true) (hc : Arr n σ env env') (s : SV A) {v : Value} (hb : okV n σ s = true) (h : Rep O env w C (sub n σ s) v) : Rep O env' w C s v := Rep.arr2 hC hc hc.same s hb h
end

theorem subO_ne {n : Nat} {σ : List (SV A)} {a : SO A} (h : a ≠ .dead) : subO n σ a ≠ .dead := by
  cases a <;> first | exact absurd rfl h | (intro e; cases e)
theorem rslO_rep {sh : List (SO A)} (hh : HR O env w C sh) {a : SO A} {x : Wit} (h : ORep O env w C a x) : ORep O env w C (rslO sh a) x := by
  cases a with
  | cells e cs =>
    cases x with
    | blk b => obtain ⟨vs, h1, h2⟩ := h; exact ⟨vs, h1, rep_rslL hh h2⟩
    | dead => exact h
    | ro v => exact h
    | sl v => exact h
  | dead => exact h
  | fr s => exact h
  | ivec e k xs => exact h
  | svec e xs => exact h
theorem rslV_rep {sh : List (SO A)} (hh : HR O env w C sh) {s : SV A} {v : Value} (h : Rep O env w C s v) : Rep O env w C (rslV sh s) v := by
  unfold rslV
  split
  · obtain ⟨us, rfl, h1⟩ := h.inv_agg
    exact .agg us (rep_rslL hh h1)
  · obtain ⟨us, vs, rfl, h1, h2⟩ := h.inv_fn
    exact .fn us vs (rep_rslL hh h1) (rep_rslL hh h2)
  · exact rep_rsl hh h

/-- The heap's entries, as far as they are wanted. -/
def cutEnv : List (SO A) → List Wit → List Wit
  | [], _ => []
  | .dead :: r, _ :: e => .dead :: cutEnv r e
  | _ :: r, x :: e => x :: cutEnv r e
  | _ :: _, [] => []

theorem cutEnv_get : ∀ {want : List (SO A)} {env : List Wit} {i : Nat} {x : Wit}, (cutEnv want env)[i]? = some x → (∃ a, want[i]? = some a ∧ a ≠ .dead ∧ env[i]? = some x) ∨ (want[i]? = some .dead ∧ x = .dead)
  | [], env, i, x, h => by simp [cutEnv] at h
  | a :: r, [], i, x, h => by cases a <;> simp [cutEnv] at h
  | a :: r, y :: e, 0, x, h => by
    cases a <;> simp [cutEnv] at h
    case dead => exact .inr ⟨rfl, h.symm⟩
    all_goals exact .inl ⟨_, rfl, by simp, by simp [h]⟩
  | a :: r, y :: e, i + 1, x, h => by
    have : (cutEnv r e)[i]? = some x := by cases a <;> simpa [cutEnv] using h
    simpa using cutEnv_get this

theorem cutEnv_len : ∀ {want : List (SO A)} {env : List Wit}, want.length ≤ env.length → (cutEnv want env).length = want.length
  | [], env, _ => rfl
  | a :: r, [], h => by simp at h
  | a :: r, y :: e, h => by
    have := cutEnv_len (want := r) (env := e) (by simpa using h)
    cases a <;> simp [cutEnv, this]


theorem okOs_get {n : Nat} {σ : List (SV A)} : ∀ {l : List (SO A)}, okOs n σ l = true → ∀ (i : Nat) a, l[i]? = some a → okO n σ a = true
  | [], _, i, a, h => by simp at h
  | x :: l, hb, i, a, h => by
    simp only [okOs] at hb
    obtain ⟨h1, h2⟩ := ite_and hb
    cases i with
    | zero => simp at h; subst h; exact h1
    | succ i => exact okOs_get h2 i a (by simpa using h)

theorem preIs_get {n : Nat} {σ : List (SV A)} {sh0 : List (SO A)} : ∀ {P sh : List (SO A)}, preIs n σ sh0 P sh → P.length ≤ sh.length ∧ ∀ (i : Nat) a b, P[i]? = some a → sh[i]? = some b → a ≠ .dead → eqo (subO n σ a) (rslO sh0 b)
  | [], sh, _ => ⟨by simp, fun i a b h _ _ => by simp at h⟩
  | a :: r, [], h => by cases a <;> simp [preIs] at h
  | a :: r, b :: s, h => by
    have key : (a ≠ .dead → eqo (subO n σ a) (rslO sh0 b)) ∧ preIs n σ sh0 r s := by
      cases a <;> simp only [preIs] at h
      case dead => exact ⟨fun h => absurd rfl h, h⟩
      all_goals exact ⟨fun _ => h.1, h.2⟩
    obtain ⟨h1, h2⟩ := preIs_get key.2
    refine ⟨by simpa using h1, fun i x y hx hy hne => ?_⟩
    cases i with
    | zero => simp at hx hy; subst hx; subst hy; exact key.1 hne
    | succ i => exact h2 i x y (by simpa using hx) (by simpa using hy) hne

theorem moreIs_get {n : Nat} {τ : List (SV A)} {sh : List (SO A)} : ∀ {M : List (SO A)} {σ : List (SV A)}, moreIs n τ sh M σ → M.length = σ.length ∧ ∀ (k : Nat) a s, M[k]? = some a → σ[k]? = some s → more1 n τ sh a s
  | [], [], _ => ⟨rfl, fun i a b h _ => by simp at h⟩
  | a :: M, s :: l, h => by
    simp only [moreIs] at h
    obtain ⟨h1, h2⟩ := moreIs_get h.2
    refine ⟨by simp [h1], fun i x y hx hy => ?_⟩
    cases i with
    | zero => simp at hx hy; subst hx; subst hy; exact h.1
    | succ i => exact h2 i x y (by simpa using hx) (by simpa using hy)
  | [], _ :: _, h => by simp [moreIs] at h
  | _ :: _, [], h => by simp [moreIs] at h

/-- Where an entry comes from. -/
def srcOf : SV A → Option Nat
  | .vec j => some j
  | .ptr j 0 => some j
  | _ => none

theorem memN_iff {j : Nat} : ∀ {l : List Nat}, memN j l = true ↔ j ∈ l
  | [] => by simp [memN]
  | i :: l => by
    simp only [memN, List.mem_cons]
    split
    · rename_i e; simp [e]
    · rename_i e
      rw [memN_iff]
      exact ⟨.inr, fun h => h.elim (fun h => absurd h.symm e) id⟩

theorem distinct_get {P : List (SO A)} : ∀ {σ : List (SV A)} {seen : List Nat}, distinct P σ seen = true →
    (∀ (k : Nat) s, σ[k]? = some s → (∃ j, (s = .vec j ∨ s = .ptr j 0) ∧ srcOf s = some j ∧ isDead P j = true ∧ j ∉ seen) ∨ (s = .val (.slice none 0 0))) ∧
    (∀ (k k' : Nat) s s' j, σ[k]? = some s → σ[k']? = some s' → srcOf s = some j → srcOf s' = some j → k = k')
  | [], seen, _ => ⟨fun k s h => by simp at h, fun k k' s s' j h => by simp at h⟩
  | s :: l, seen, h => by
    unfold distinct at h
    split at h
    · rename_i e; cases e
    all_goals first | (cases h; done) | skip
    case h_2 | h_3 =>
      rename_i j l' e
      cases e
      split at h
      · rename_i hd
        split at h
        · cases h
        · rename_i hm
          obtain ⟨h1, h2⟩ := distinct_get h
          refine ⟨fun k s hk => ?_, fun k k' s s' i hk hk' hs hs' => ?_⟩
          · cases k with
            | zero =>
              simp at hk; subst hk
              first
              | exact .inl ⟨j, .inl rfl, rfl, hd, fun h3 => hm (memN_iff.2 h3)⟩
              | exact .inl ⟨j, .inr rfl, rfl, hd, fun h3 => hm (memN_iff.2 h3)⟩
            | succ k =>
              rcases h1 k s (by simpa using hk) with ⟨i, h3, h4, h5, h6⟩ | h3
              · exact .inl ⟨i, h3, h4, h5, fun h7 => h6 (List.mem_cons_of_mem _ h7)⟩
              · exact .inr h3
          · have key : ∀ (k : Nat) s, l[k]? = some s → srcOf s = some i → i ≠ j := by
              intro k s hk hs
              rcases h1 k s hk with ⟨i', h3, h4, h5, h6⟩ | h3
              · rw [hs] at h4; cases h4
                exact fun e => h6 (e ▸ List.mem_cons_self)
              · rw [h3] at hs; cases hs
            cases k with
            | zero =>
              cases k' with
              | zero => rfl
              | succ k' =>
                simp at hk; subst hk; cases hs
                exact absurd rfl (key k' s' (by simpa using hk') hs')
            | succ k =>
              cases k' with
              | zero =>
                simp at hk'; subst hk'; cases hs'
                exact absurd rfl (key k s (by simpa using hk) hs)
              | succ k' => rw [h2 k k' s s' i (by simpa using hk) (by simpa using hk') hs hs']
      · cases h
    case h_4 =>
      rename_i e
      cases e
      obtain ⟨h1, h2⟩ := distinct_get h
      refine ⟨fun k s hk => ?_, fun k k' s s' i hk hk' hs hs' => ?_⟩
      · cases k with
        | zero => simp at hk; subst hk; exact .inr rfl
        | succ k => exact h1 k s (by simpa using hk)
      · cases k with
        | zero => simp at hk; subst hk; cases hs
        | succ k =>
          cases k' with
          | zero => simp at hk'; subst hk'; cases hs'
          | succ k' => rw [h2 k k' s s' i (by simpa using hk) (by simpa using hk') hs hs']

def srcWit (env : List Wit) : SV A → Wit
  | .vec j => match env[j]? with
    | some x => x
    | none => .dead
  | .ptr j _ => match env[j]? with
    | some x => x
    | none => .dead
  | _ => .sl (.slice none 0 0)
def arrEnv (P : List (SO A)) (σ : List (SV A)) (env : List Wit) : List Wit := cutEnv P env ++ σ.map (srcWit env)

set_option maxHeartbeats 1000000 in
/-- The heap, as it is wanted. -/
theorem heap_arr2 {sh P M : List (SO A)} {σ : List (SV A)} (hC : ∀ t y, belowL 0 (C.enc t y) = true) (h : HR O env w C sh) (hd : distinct P σ [] = true)
    (hO2 : ∀ b, ¬ O b → ¬ owned env b → ¬ O2 b) (hout : ∀ b, owned (arrEnv P σ env) b → ¬ O2 b) (holt : ∀ b, O2 b → b < w.heap.size)
    (hbP : okOs P.length σ P = true) (hbM : okOs P.length σ M = true) (hp : preIs P.length σ sh P sh) (hm : moreIs P.length σ sh M σ) :
    HR O2 (arrEnv P σ env) w C (P ++ M) ∧ Arr P.length σ env (arrEnv P σ env) := by
  obtain ⟨hl, hget⟩ := preIs_get hp
  obtain ⟨hml, hmget⟩ := moreIs_get hm
  obtain ⟨hd1, hd2⟩ := distinct_get hd
  have hle : P.length ≤ env.length := by rw [← h.len]; exact hl
  have hlen : (cutEnv P env).length = P.length := cutEnv_len hle
  -- where each entry comes from
  have hsrc : ∀ (k : Nat) a s j, M[k]? = some a → σ[k]? = some s → srcOf s = some j → ∃ so x, sh[j]? = some so ∧ env[j]? = some x ∧ srcWit env s = x ∧ eqo (subO P.length σ a) (rslO sh so) ∧ a ≠ .dead := by
    intro k a s j ha hs hj
    have hmo := hmget k a s ha hs
    have hwit : ∀ so, nth sh j = some so → ∃ x, sh[j]? = some so ∧ env[j]? = some x ∧ srcWit env s = x := by
      intro so hso
      rw [nth_eq] at hso
      have h1 : j < env.length := by rw [← h.len]; exact (List.getElem?_eq_some_iff.1 hso).1
      have h2 : env[j]? = some env[j] := List.getElem?_eq_getElem h1
      refine ⟨_, hso, h2, ?_⟩
      unfold srcOf at hj
      split at hj
      · cases hj; simp only [srcWit, h2]
      · cases hj; simp only [srcWit, h2]
      · cases hj
    unfold more1 at hmo
    split at hmo
    · rename_i e k' xs j' 
      cases hj
      split at hmo
      · rename_i so hso
        obtain ⟨x, h1, h2, h3⟩ := hwit so hso
        refine ⟨so, x, h1, h2, h3, ?_, by simp⟩
        simp only [subO]
        cases so <;> first | exact hmo | (simp only [eqo] at hmo; cases hmo)
      · exact hmo.elim
    · rename_i e xs j'
      cases hj
      split at hmo
      · rename_i so hso
        obtain ⟨x, h1, h2, h3⟩ := hwit so hso
        refine ⟨so, x, h1, h2, h3, ?_, by simp⟩
        simp only [subO]
        cases so <;> first | exact hmo | (simp only [eqo] at hmo; cases hmo)
      · exact hmo.elim
    · rename_i e cs j' o'
      have hj' : j' = j := by
        unfold srcOf at hj
        split at hj
        · rename_i e'; cases e'
        · rename_i e'; cases e'; cases hj; rfl
        · cases hj
      subst hj'
      split at hmo
      · rename_i so hso
        obtain ⟨x, h1, h2, h3⟩ := hwit so hso
        exact ⟨so, x, h1, h2, h3, hmo, by simp⟩
      · exact hmo.elim
    · cases hj
    · cases hj
    · exact hmo.elim
  have hgetP : ∀ (i : Nat) x, i < P.length → (arrEnv P σ env)[i]? = some x → (cutEnv P env)[i]? = some x := fun i x hi hx => by
    unfold arrEnv at hx
    rwa [List.getElem?_append_left (by rw [hlen]; exact hi)] at hx
  have hgetM : ∀ (i : Nat) x, P.length ≤ i → (arrEnv P σ env)[i]? = some x → ∃ s, σ[i - P.length]? = some s ∧ srcWit env s = x := fun i x hi hx => by
    unfold arrEnv at hx
    rw [List.getElem?_append_right (by rw [hlen]; exact hi), hlen, List.getElem?_map] at hx
    cases hs : σ[i - P.length]? with
    | none => rw [hs] at hx; simp at hx
    | some s => rw [hs] at hx; simp at hx; exact ⟨s, rfl, hx⟩
  -- who owns what: each owner is an old one
  have hfrom : ∀ (i : Nat) x b, (arrEnv P σ env)[i]? = some x → x.owns b → ∃ j, env[j]? = some x ∧ ((i = j ∧ i < P.length ∧ ∃ a, P[i]? = some a ∧ a ≠ .dead) ∨ (P.length ≤ i ∧ ∃ s, σ[i - P.length]? = some s ∧ srcOf s = some j ∧ isDead P j = true)) := by
    intro i x b hx ho
    rcases Nat.lt_or_ge i P.length with hi | hi
    · rcases cutEnv_get (hgetP i x hi hx) with ⟨a, h1, h2, h3⟩ | ⟨_, h1⟩
      · exact ⟨i, h3, .inl ⟨rfl, hi, a, h1, h2⟩⟩
      · rw [h1] at ho; exact ho.elim
    · obtain ⟨s, hs, hw⟩ := hgetM i x hi hx
      rcases hd1 _ s hs with ⟨j, h1, h2, h3, _⟩ | h1
      · refine ⟨j, ?_, .inr ⟨hi, s, hs, h2, h3⟩⟩
        have : srcWit env s = match env[j]? with | some x => x | none => .dead := by rcases h1 with rfl | rfl <;> rfl
        rw [this] at hw
        cases hj : env[j]? with
        | none => rw [hj] at hw; simp only at hw; rw [← hw] at ho; exact ho.elim
        | some y => rw [hj] at hw; simp only at hw; rw [hw]
      · rw [h1] at hw
        simp only [srcWit] at hw
        rw [← hw] at ho
        simp [Wit.owns, Value.ownBlock] at ho
  have hsub : ∀ b, owned (arrEnv P σ env) b → owned env b := fun b ⟨i, x, hx, ho⟩ => by
    obtain ⟨j, hj, _⟩ := hfrom i x b hx ho
    exact ⟨j, x, hj, ho⟩
  have harr : Arr P.length σ env (arrEnv P σ env) := by
    have hmk : ∀ (k : Nat) s, σ[k]? = some s → (arrEnv P σ env)[P.length + k]? = some (srcWit env s) := fun k s hs => by
      unfold arrEnv
      rw [List.getElem?_append_right (by omega), hlen, List.getElem?_map, Nat.add_sub_cancel_left, hs]; rfl
    have hin : ∀ (k : Nat) s j, σ[k]? = some s → srcOf s = some j → ∃ x, env[j]? = some x ∧ srcWit env s = x := fun k s j hs hj => by
      have hk : k < M.length := by rw [hml]; exact (List.getElem?_eq_some_iff.1 hs).1
      obtain ⟨so, x, _, h2, h3, _⟩ := hsrc k _ s j (List.getElem?_eq_getElem hk) hs hj
      exact ⟨x, h2, h3⟩
    refine ⟨fun i x hi hx => ?_, fun k j hs => ?_, fun k j o hs => ?_, fun k hs => ?_, hsub⟩
    · have h1 : i < (cutEnv P env).length := by rw [hlen]; exact hi
      have : (arrEnv P σ env)[i]? = some ((cutEnv P env)[i]) := by
        unfold arrEnv
        rw [List.getElem?_append_left h1]; exact List.getElem?_eq_getElem h1
      rw [this]
      rcases cutEnv_get (List.getElem?_eq_getElem h1) with ⟨_, _, _, h2⟩ | ⟨_, h2⟩
      · rw [hx] at h2; exact .inl h2.symm
      · exact .inr (by rw [h2])
    · obtain ⟨x, h1, h2⟩ := hin k _ j hs rfl
      rw [hmk k _ hs, h2, h1]
    · rcases hd1 k _ hs with ⟨j', h1, h2, _⟩ | h1
      · obtain ⟨x, h3, h4⟩ := hin k _ j' hs h2
        have : j' = j := by rcases h1 with h1 | h1 <;> cases h1; rfl
        subst this
        rw [hmk k _ hs, h4, h3]
      · cases h1
    · exact hmk k _ hs
  have hO : ∀ b, ¬ O b → ¬ owned env b → ¬ O2 b ∧ ¬ owned (arrEnv P σ env) b := fun b h1 h2 => ⟨hO2 b h1 h2, fun h3 => h2 (hsub b h3)⟩
  refine ⟨⟨?_, fun i so x h1 h2 => ?_, fun i j x y b h1 h2 hx hy => ?_, hout, fun b hb => h.lt b (hsub b hb), holt⟩, harr⟩
  · simp [arrEnv, hlen, hml]
  · rcases Nat.lt_or_ge i P.length with hi | hi
    · rw [List.getElem?_append_left hi] at h1
      rcases cutEnv_get (hgetP i x hi h2) with ⟨a, h3, h4, h5⟩ | ⟨h3, h4⟩
      · rw [h1] at h3; cases h3
        have hil : i < sh.length := by omega
        have hr := rslO_rep h (h.rep i _ x (List.getElem?_eq_getElem hil) h5)
        exact (eqo_rep (subO_ne h4) (hget i so _ h1 (List.getElem?_eq_getElem hil) h4) hr).arr2 hC harr hO (okOs_get hbP i so h1)
      · rw [h1] at h3; cases h3; exact h4
    · rw [List.getElem?_append_right hi] at h1
      obtain ⟨s, hs, hw⟩ := hgetM i x hi h2
      rcases hd1 _ s hs with ⟨j, h3, h4, h5, _⟩ | h3
      · obtain ⟨so', x', h6, h7, h8, h9, h10⟩ := hsrc _ so s j h1 hs h4
        rw [h8] at hw; subst hw
        have hr := rslO_rep h (h.rep j _ _ h6 h7)
        exact (eqo_rep (subO_ne h10) h9 hr).arr2 hC harr hO (okOs_get hbM _ so h1)
      · subst h3
        simp only [srcWit] at hw
        subst hw
        have hmo := hmget _ so _ h1 hs
        unfold more1 at hmo
        split at hmo
        all_goals first | (rename_i e; cases e; done) | skip
        all_goals first | exact hmo.elim | skip
        · subst hmo; exact ⟨by simp, .inl ⟨rfl, rfl⟩⟩
        · subst hmo; exact ⟨[], ⟨by simp, .inl ⟨rfl, rfl⟩⟩, fun j x hj => by simp at hj⟩
  · obtain ⟨p, h3, h4⟩ := hfrom i x b h1 hx
    obtain ⟨q, h5, h6⟩ := hfrom j y b h2 hy
    have hpq := h.disj p q x y b h3 h5 hx hy
    subst hpq
    have hdead : ∀ a, P[p]? = some a → a ≠ .dead → isDead P p = true → False := by
      intro a ha hne hde
      unfold isDead at hde
      rw [nth_eq, ha] at hde
      cases a <;> simp at hde hne
    rcases h4 with ⟨rfl, h7, a, h8, h9⟩ | ⟨h7, s, h8, h9, h10⟩ <;> rcases h6 with ⟨h11, h12, a', h13, h14⟩ | ⟨h11, s', h12, h13, h14⟩
    · omega
    · exact (hdead a h8 h9 h14).elim
    · subst h11; exact (hdead a' h13 h14 h10).elim
    · have := hd2 _ _ s s' p h8 h12 h9 h13
      omega

theorem arrEnv_sub {P : List (SO A)} {σ : List (SV A)} {env : List Wit} : ∀ b, owned (arrEnv P σ env) b → owned env b := by
  rintro b ⟨i, x, hx, ho⟩
  unfold arrEnv at hx
  rcases Nat.lt_or_ge i (cutEnv P env).length with hi | hi
  · rw [List.getElem?_append_left hi] at hx
    rcases cutEnv_get hx with ⟨_, _, _, h⟩ | ⟨_, h⟩
    · exact ⟨i, x, h, ho⟩
    · rw [h] at ho; exact ho.elim
  · rw [List.getElem?_append_right hi, List.getElem?_map] at hx
    cases hs : σ[i - (cutEnv P env).length]? with
    | none => rw [hs] at hx; simp at hx
    | some s =>
      rw [hs] at hx
      simp only [Option.map_some, Option.some.injEq] at hx
      subst hx
      unfold srcWit at ho
      split at ho
      · rename_i j
        cases hj : env[j]? with
        | none => rw [hj] at ho; exact ho.elim
        | some y => rw [hj] at ho; exact ⟨_, y, hj, ho⟩
      · rename_i j _
        cases hj : env[j]? with
        | none => rw [hj] at ho; exact ho.elim
        | some y => rw [hj] at ho; exact ⟨_, y, hj, ho⟩
      · simp [Wit.owns, Value.ownBlock] at ho

/-- The heap, as it is wanted. -/
theorem heap_arr {sh P M : List (SO A)} {σ : List (SV A)} (hC : ∀ t y, belowL 0 (C.enc t y) = true) (h : HR O env w C sh) (hd : distinct P σ [] = true)
    (hbP : okOs P.length σ P = true) (hbM : okOs P.length σ M = true) (hp : preIs P.length σ sh P sh) (hm : moreIs P.length σ sh M σ) :
    HR O (arrEnv P σ env) w C (P ++ M) ∧ Arr P.length σ env (arrEnv P σ env) :=
  heap_arr2 hC h hd (fun _ h _ => h) (fun b hb => h.out b (arrEnv_sub b hb)) h.olt hbP hbM hp hm

theorem Step.arr {env0 : List Wit} {w0 : World} {n : Nat} {σ : List (SV A)} (hs : Step env0 w0 env w) (hn : env0.length ≤ n) (hl : n ≤ env'.length) (hc : Arr n σ env env') : Step env0 w0 env' w := by
  refine ⟨hs.os, hs.tape, hs.output, hs.size, by omega, fun i x hx => ?_, fun b hb => hs.fresh b (hc.own b hb), hs.cells⟩
  have hi : i < n := by have := (List.getElem?_eq_some_iff.1 hx).1; omega
  obtain ⟨y, h1, h2⟩ := hs.keep i x hx
  rcases hc.keep i y hi h1 with h3 | h3
  · exact ⟨y, h3, h2⟩
  · exact ⟨_, h3, .inr (.inl rfl)⟩
end
end Go.Eng
