/- Part 3 of the texts behind the last one: what they say stands ahead of each. Conditions: none. -/
import Derived.Test.YtcglahfmnoghjaaGreatDoorMa2
import Derived.LoopN
import Derived.Test.YtcglahfmnoghjaaGreatDoorProg
import Derived.WalkKit
import Derived.LaidEql
import Derived.Stop.Asserts
import Derived.RowKitTokens
import Derived.Shelf.Sort.Plain
import Derived.Ground.Names2Prog
import Derived.Ground.NamesProg
import Derived.Shelf.Slices.Cells
import Derived.Shelf.Slices.In.SortNone
/-! The engine is right: where code arrives. Conditions: none. -/
namespace Go.Eng
open Go
variable {A : Nat → Type}

theorem joinL_eq {α : Type _} : ∀ l m : List α, joinL l m = l ++ m
  | [], _ => rfl
  | x :: l, m => by simp [joinL, joinL_eq l m]


section
variable {O O2 : Nat → Prop} {env env2 : List Wit} {env' : List Wit} {w : World} {C : Enc A}

theorem ite_tt {p : Prop} [Decidable p] (h : (if p then true else false) = true) : p := by
  split at h
  · assumption
  · cases h
theorem ite_and {p q : Bool} (h : (if p = true then q else false) = true) : p = true ∧ q = true := by
  split at h
  · exact ⟨by assumption, h⟩
  · cases h

theorem ROat.far (hO : ∀ b, ¬ O b → ¬ owned env b → ¬ O2 b ∧ ¬ owned env2 b) {a : Option Addr} {vs : List Value} (h : ROat O env w a vs) : ROat O2 env2 w a vs := by
  rcases h with h | ⟨b, o, ha, hb, he, hc⟩
  · exact .inl h
  · exact .inr ⟨b, o, ha, (hO b hb he).1, (hO b hb he).2, hc⟩

mutual
/-- What speaks of no entry is so in every heap that owns no more. -/
theorem Rep.closed (hC : ∀ t y, belowL 0 (C.enc t y) = true) (hO : ∀ b, ¬ O b → ¬ owned env b → ¬ O2 b ∧ ¬ owned env2 b) : ∀ {s : SV A} {v : Value}, belowV 0 s = true → Rep O env w C s v → Rep O2 env2 w C s v
  | _, _, _, .junk => .junk
  | _, _, _, .undef => .undef
  | _, _, _, .val => .val
  | _, _, _, .int => .int
  | _, _, _, .lit => .lit
  | _, _, _, .bl => .bl
  | _, _, _, .sb => .sb
  | _, _, hb, .ptr h => absurd (ite_tt (by simp only [belowV] at hb; exact hb)) (Nat.not_lt_zero _)
  | _, _, hb, .aptr h => absurd (ite_tt (by simp only [belowV] at hb; exact hb)) (Nat.not_lt_zero _)
  | _, _, hb, .asl h => absurd (ite_tt (by simp only [belowV] at hb; exact hb)) (Nat.not_lt_zero _)
  | _, _, hb, .vec h => absurd (ite_tt (by simp only [belowV] at hb; exact hb)) (Nat.not_lt_zero _)
  | _, _, hb, .vptr h => absurd (ite_tt (by simp only [belowV] at hb; exact hb)) (Nat.not_lt_zero _)
  | _, _, hb, .rptr b o vs h1 h2 hl hcl h => .rptr b o vs (hO b h1 h2).1 (hO b h1 h2).2 hl hcl (RepL.closed hC hO (by simp only [belowV] at hb; exact hb) h)
  | _, _, _, .rints a c h1 h2 h => .rints a c h1 h2 (h.far hO)
  | _, _, _, .rseq a c vs h1 h2 h3 h hx => .rseq a c vs h1 h2 h3 (h.far hO) (fun j x hj => RepL.closed hC hO (hC _ _) (hx j x hj))
  | _, _, hb, .iface h => .iface (Rep.closed hC hO (by simp only [belowV] at hb; exact hb) h)
  | _, _, _, .err h => .err h
  | _, _, hb, .fn us vs ha hb' => .fn us vs (RepL.closed hC hO (by simp only [belowV] at hb; exact (ite_and hb).1) ha) (RepL.closed hC hO (by simp only [belowV] at hb; exact (ite_and hb).2) hb')
  | _, _, hb, .agg vs h => .agg vs (RepL.closed hC hO (by simp only [belowV] at hb; exact hb) h)
  | _, _, hb, .tup vs h => .tup vs (RepL.closed hC hO (by simp only [belowV] at hb; exact hb) h)
theorem RepL.closed (hC : ∀ t y, belowL 0 (C.enc t y) = true) (hO : ∀ b, ¬ O b → ¬ owned env b → ¬ O2 b ∧ ¬ owned env2 b) : ∀ {cs : SL A} {vs : List Value}, belowL 0 cs = true → RepL O env w C cs vs → RepL O2 env2 w C cs vs
  | _, _, _, .nil => .nil
  | _, _, hb, .cell h hr => .cell (Rep.closed hC hO (by simp only [belowL] at hb; exact (ite_and hb).1) h) (RepL.closed hC hO (by simp only [belowL] at hb; exact (ite_and hb).2) hr)
  | _, _, hb, .run hn hr => .run hn (RepL.closed hC hO (by simp only [belowL] at hb; exact hb) hr)
end

theorem eqo_rep {a b : SO A} {x : Wit} (hd : a ≠ .dead) (h : eqo a b) (hr : ORep O env w C b x) : ORep O env w C a x := by
  unfold eqo at h
  split at h
  · exact absurd rfl hd
  · split at h
    · rename_i e
      subst e
      cases x with
      | blk b => obtain ⟨vs, h1, h2⟩ := hr; exact ⟨vs, h1, eqvL_rep h h2⟩
      | dead => exact hr
      | ro v => exact hr
      | sl v => exact hr
      | mb b => exact hr
    · exact h.elim
  · split at h
    · rename_i e
      subst e
      split at h
      · rename_i e; subst e; subst h; exact hr
      · exact h.elim
    · exact h.elim
  · split at h
    · rename_i e; subst e; subst h; exact hr
    · exact h.elim
  · split at h
    · rename_i e
      split at h
      · rename_i e2
        subst e; subst e2
        obtain ⟨h1, h2⟩ := h
        subst h2
        simp only [castM] at h1
        subst h1
        exact hr
      · exact h.elim
    · exact h.elim
  · subst h; exact hr


/-- Entries that are wanted, the first n where they are, the others wherever they are. -/
structure Arr (n : Nat) (σ : List (SV A)) (env env' : List Wit) : Prop where
  keep : ∀ (i : Nat) x, i < n → env[i]? = some x → env'[i]? = some x ∨ env'[i]? = some .dead
  vec : ∀ k j, σ[k]? = some (.vec j) → env'[n + k]? = env[j]?
  ptr : ∀ k j o, σ[k]? = some (.ptr j o) → env'[n + k]? = env[j]?
  nil : ∀ k, σ[k]? = some (.val (.slice none 0 0)) → env'[n + k]? = some (.sl (.slice none 0 0))
  own : ∀ b, owned env' b → owned env b

section
variable {n : Nat} {σ : List (SV A)}
theorem Arr.blk (hc : Arr n σ env env') {i : Nat} (hi : i < n) {P : Nat → Prop} (h : blkAt env i P) : blkAt env' i P := by
  unfold blkAt at *
  cases hx : env[i]? with
  | none => simp [hx] at h
  | some x =>
    rw [hx] at h
    rcases hc.keep i x hi hx with h1 | h1 <;> rw [h1]
    · exact h
    · trivial
theorem Arr.ref (hc : Arr n σ env env') {i : Nat} (hi : i < n) {off : Nat} {v : Value} (h : refAt env i off v) : refAt env' i off v := by
  unfold refAt at *
  cases hx : env[i]? with
  | none => simp [hx] at h
  | some x =>
    rw [hx] at h
    rcases hc.keep i x hi hx with h1 | h1 <;> rw [h1]
    · exact h
    · trivial
theorem Arr.sl (hc : Arr n σ env env') {i : Nat} (hi : i < n) {P : Value → Prop} (h : slAt env i P) : slAt env' i P := by
  unfold slAt at *
  cases hx : env[i]? with
  | none => simp [hx] at h
  | some x =>
    rw [hx] at h
    rcases hc.keep i x hi hx with h1 | h1 <;> rw [h1]
    · exact h
    · trivial

mutual
theorem Rep.arr2 (hC : ∀ t y, belowL 0 (C.enc t y) = true) (hc : Arr n σ env env') (hO : ∀ b, ¬ O b → ¬ owned env b → ¬ O2 b ∧ ¬ owned env' b) : ∀ (s : SV A) {v : Value}, okV n σ s = true → Rep O env w C (sub n σ s) v → Rep O2 env' w C s v
  | .junk, _, _, _ => .junk
  | .undef, _, _, h => by simp only [sub] at h; rw [h.inv_undef]; exact .undef
  | .val u, _, _, h => by simp only [sub] at h; rw [h.inv_val]; exact .val
  | .int k m, _, _, h => by simp only [sub] at h; rw [h.inv_int]; exact .int
  | .lit k m, _, _, h => by simp only [sub] at h; rw [h.inv_lit]; exact .lit
  | .bl b, _, _, h => by simp only [sub] at h; rw [h.inv_bl]; exact .bl
  | .sb i b, _, _, h => by simp only [sub] at h; rw [h.inv_sb]; exact .sb
  | .ptr i o, v, hb, h => by
    simp only [okV] at hb
    simp only [sub] at h
    split at hb
    · rename_i hi
      rw [if_pos hi] at h
      exact .ptr (hc.ref hi h.inv_ptr)
    · rename_i hi
      rw [if_neg hi] at h
      unfold ptrSrc at hb
      rw [nth_eq] at hb h
      split at hb
      · rename_i j hj
        rw [hj] at h
        simp only at h
        have h1 := h.inv_ptr
        have h2 := hc.ptr _ _ _ hj
        rw [show n + (i - n) = i from by omega] at h2
        refine .ptr ?_
        unfold refAt at h1 ⊢
        rw [h2]; exact h1
      · cases hb
  | .aptr i o m j, v, hb, h => by simp only [sub] at h; simp only [okV] at hb; exact .aptr (hc.blk (ite_tt hb) h.inv_aptr)
  | .asl i o m, v, hb, h => by simp only [sub] at h; simp only [okV] at hb; exact .asl (hc.blk (ite_tt hb) h.inv_asl)
  | .vptr i j s o, v, hb, h => by simp only [sub] at h; simp only [okV] at hb; exact .vptr (hc.sl (ite_tt hb) h.inv_vptr)
  | .vec i, v, hb, h => by
    simp only [okV] at hb
    simp only [sub] at h
    split at hb
    · rename_i hi
      rw [if_pos hi] at h
      exact .vec (hc.sl hi h.inv_vec)
    · rename_i hi
      rw [if_neg hi] at h
      unfold vecSrc at hb
      rw [nth_eq] at hb h
      split at hb
      · rename_i j hj
        rw [hj] at h
        simp only at h
        have h1 := h.inv_vec
        have h2 := hc.vec _ _ hj
        rw [show n + (i - n) = i from by omega] at h2
        refine .vec ?_
        unfold slAt at h1 ⊢
        rw [h2]; exact h1
      · rename_i hj
        rw [hj] at h
        simp only at h
        have h1 := h.inv_val
        have h2 := hc.nil _ hj
        rw [show n + (i - n) = i from by omega] at h2
        refine .vec ?_
        unfold slAt
        rw [h2]; exact h1
      · cases hb
  | .rptr cs o, v, hb, h => by
    simp only [sub] at h; simp only [okV] at hb
    obtain ⟨b, o', vs, rfl, h1, h2, h3, h4, h5⟩ := h.inv_rptr
    exact .rptr b o' vs (hO b h1 h2).1 (hO b h1 h2).2 h3 h4 (RepL.arr2 hC hc hO cs hb h5)
  | .rints k xs, v, _, h => by
    simp only [sub] at h
    obtain ⟨x, c, rfl, h1, h2, h3⟩ := h.inv_rints
    exact .rints x c h1 h2 (h3.far hO)
  | .rseq t xs, v, _, h => by
    simp only [sub] at h
    obtain ⟨x, c, vs, rfl, h1, h2, h3, h4, h5⟩ := h.inv_rseq
    exact .rseq x c vs h1 h2 h3 (h4.far hO) (fun j y hj => (h5 j y hj).closed hC hO (hC _ _))
  | .iface t s, v, hb, h => by
    simp only [sub] at h; simp only [okV] at hb
    obtain ⟨u, rfl, h1⟩ := h.inv_iface
    exact .iface (Rep.arr2 hC hc hO s hb h1)
  | .err t m, v, _, h => by simp only [sub] at h; exact .err h.inv_err
  | .fn f x y, v, hb, h => by
    simp only [sub] at h; simp only [okV] at hb
    obtain ⟨us, vs, rfl, h1, h2⟩ := h.inv_fn
    exact .fn us vs (RepL.arr2 hC hc hO x (ite_and hb).1 h1) (RepL.arr2 hC hc hO y (ite_and hb).2 h2)
  | .agg cs, v, hb, h => by
    simp only [sub] at h; simp only [okV] at hb
    obtain ⟨us, rfl, h1⟩ := h.inv_agg
    exact .agg us (RepL.arr2 hC hc hO cs hb h1)
  | .tup cs, v, hb, h => by
    simp only [sub] at h; simp only [okV] at hb
    obtain ⟨us, rfl, h1⟩ := h.inv_tup
    exact .tup us (RepL.arr2 hC hc hO cs hb h1)
theorem RepL.arr2 (hC : ∀ t y, belowL 0 (C.enc t y) = true) (hc : Arr n σ env env') (hO : ∀ b, ¬ O b → ¬ owned env b → ¬ O2 b ∧ ¬ owned env' b) : ∀ (cs : SL A) {vs : List Value}, okL n σ cs = true → RepL O env w C (subL n σ cs) vs → RepL O2 env' w C cs vs
  | .nil, _, _, h => by simp only [subL] at h; rw [h.inv_nil]; exact .nil
  | .cell s r, _, hb, h => by
    simp only [subL] at h; simp only [okL] at hb
    obtain ⟨u, us, rfl, h1, h2⟩ := h.inv_cell
    exact .cell (Rep.arr2 hC hc hO s (ite_and hb).1 h1) (RepL.arr2 hC hc hO r (ite_and hb).2 h2)
  | .run k m xs r, _, hb, h => by
    simp only [subL] at h; simp only [okL] at hb
    obtain ⟨us, hn, rfl, h1⟩ := h.inv_run
    exact .run hn (RepL.arr2 hC hc hO r hb h1)
end

theorem ORep.arr2 (hC : ∀ t y, belowL 0 (C.enc t y) = true) (hc : Arr n σ env env') (hO : ∀ b, ¬ O b → ¬ owned env b → ¬ O2 b ∧ ¬ owned env' b) {a : SO A} {x : Wit} (hb : okO n σ a = true) (h : ORep O env w C (subO n σ a) x) : ORep O2 env' w C a x := by
  cases a with
  | dead => exact h
  | cells e cs =>
    cases x with
    | blk b => obtain ⟨vs, h1, h2⟩ := h; exact ⟨vs, h1, h2.arr2 hC hc hO cs hb⟩
    | dead => exact h
    | ro v => exact h
    | sl v => exact h
    | mb b => exact h
  | smap kt vt es st => cases x with
    | mb b => exact MapR.imp h rfl (fun _ _ _ h => h.closed hC hO (hC _ _))
    | dead => exact h
    | ro v => exact h
    | sl v => exact h
    | blk b => exact h
  | fr s => cases x with
    | ro v => exact Rep.arr2 hC hc hO s hb h
    | dead => exact h
    | blk v => exact h
    | sl v => exact h
    | mb b => exact h
  | ivec e k xs => cases x <;> exact h
  | svec e xs =>
    cases x with
    | sl v => obtain ⟨vs, h1, h2⟩ := h; exact ⟨vs, h1, fun j y hj => (h2 j y hj).closed hC hO (hC _ _)⟩
    | dead => exact h
    | ro v => exact h
    | blk b => exact h
    | mb b => exact h
theorem Arr.same (hc : Arr n σ env env') : ∀ b, ¬ O b → ¬ owned env b → ¬ O b ∧ ¬ owned env' b := fun b h4 h5 => ⟨h4, fun h6 => h5 (hc.own b h6)⟩
theorem Rep.arr (hC : ∀ t y, belowL 0 (C.enc t y) = true) (hc : Arr n σ env env') (s : SV A) {v : Value} (hb : okV n σ s = true) (h : Rep O env w C (sub n σ s) v) : Rep O env' w C s v := Rep.arr2 hC hc hc.same s hb h
end

theorem subO_ne {n : Nat} {σ : List (SV A)} {a : SO A} (h : a ≠ .dead) : subO n σ a ≠ .dead := by
  cases a <;> first | exact absurd rfl h | (intro e; cases e)
theorem rslO_rep {sh : List (SO A)} (hh : HR O env w C sh) {a : SO A} {x : Wit} (h : ORep O env w C a x) : ORep O env w C (rslO sh a) x := by
  cases a with
  | cells e cs =>
    cases x with
    | blk b => obtain ⟨vs, h1, h2⟩ := h; exact ⟨vs, h1, rep_rslL hh h2⟩
    | dead => exact h
    | ro v => exact h
    | sl v => exact h
    | mb b => exact h
  | smap _ _ _ _ => exact h
  | dead => exact h
  | fr s => exact h
  | ivec e k xs => exact h
  | svec e xs => exact h
theorem rslV_rep {sh : List (SO A)} (hh : HR O env w C sh) {s : SV A} {v : Value} (h : Rep O env w C s v) : Rep O env w C (rslV sh s) v := by
  unfold rslV
  split
  · obtain ⟨us, rfl, h1⟩ := h.inv_agg
    exact .agg us (rep_rslL hh h1)
  · obtain ⟨us, vs, rfl, h1, h2⟩ := h.inv_fn
    exact .fn us vs (rep_rslL hh h1) (rep_rslL hh h2)
  · exact rep_rsl hh h

/-- The heap's entries, as far as they are wanted. -/
def cutEnv : List (SO A) → List Wit → List Wit
  | [], _ => []
  | .dead :: r, _ :: e => .dead :: cutEnv r e
  | _ :: r, x :: e => x :: cutEnv r e
  | _ :: _, [] => []

theorem cutEnv_get : ∀ {want : List (SO A)} {env : List Wit} {i : Nat} {x : Wit}, (cutEnv want env)[i]? = some x → (∃ a, want[i]? = some a ∧ a ≠ .dead ∧ env[i]? = some x) ∨ (want[i]? = some .dead ∧ x = .dead)
  | [], env, i, x, h => by simp [cutEnv] at h
  | a :: r, [], i, x, h => by cases a <;> simp [cutEnv] at h
  | a :: r, y :: e, 0, x, h => by
    cases a <;> simp [cutEnv] at h
    case dead => exact .inr ⟨rfl, h.symm⟩
    all_goals exact .inl ⟨_, rfl, by simp, by simp [h]⟩
  | a :: r, y :: e, i + 1, x, h => by
    have : (cutEnv r e)[i]? = some x := by cases a <;> simpa [cutEnv] using h
    simpa using cutEnv_get this

theorem cutEnv_len : ∀ {want : List (SO A)} {env : List Wit}, want.length ≤ env.length → (cutEnv want env).length = want.length
  | [], env, _ => rfl
  | a :: r, [], h => by simp at h
  | a :: r, y :: e, h => by
    have := cutEnv_len (want := r) (env := e) (by simpa using h)
    cases a <;> simp [cutEnv, this]


theorem okOs_get {n : Nat} {σ : List (SV A)} : ∀ {l : List (SO A)}, okOs n σ l = true → ∀ (i : Nat) a, l[i]? = some a → okO n σ a = true
  | [], _, i, a, h => by simp at h
  | x :: l, hb, i, a, h => by
    simp only [okOs] at hb
    obtain ⟨h1, h2⟩ := ite_and hb
    cases i with
    | zero => simp at h; subst h; exact h1
    | succ i => exact okOs_get h2 i a (by simpa using h)

theorem preIs_get {n : Nat} {σ : List (SV A)} {sh0 : List (SO A)} : ∀ {P sh : List (SO A)}, preIs n σ sh0 P sh → P.length ≤ sh.length ∧ ∀ (i : Nat) a b, P[i]? = some a → sh[i]? = some b → a ≠ .dead → eqo (subO n σ a) (rslO sh0 b)
  | [], sh, _ => ⟨by simp, fun i a b h _ _ => by simp at h⟩
  | a :: r, [], h => by cases a <;> simp [preIs] at h
  | a :: r, b :: s, h => by
    have key : (a ≠ .dead → eqo (subO n σ a) (rslO sh0 b)) ∧ preIs n σ sh0 r s := by
      cases a <;> simp only [preIs] at h
      case dead => exact ⟨fun h => absurd rfl h, h⟩
      all_goals exact ⟨fun _ => h.1, h.2⟩
    obtain ⟨h1, h2⟩ := preIs_get key.2
    refine ⟨by simpa using h1, fun i x y hx hy hne => ?_⟩
    cases i with
    | zero => simp at hx hy; subst hx; subst hy; exact key.1 hne
    | succ i => exact h2 i x y (by simpa using hx) (by simpa using hy) hne

theorem moreIs_get {n : Nat} {τ : List (SV A)} {sh : List (SO A)} : ∀ {M : List (SO A)} {σ : List (SV A)}, moreIs n τ sh M σ → M.length = σ.length ∧ ∀ (k : Nat) a s, M[k]? = some a → σ[k]? = some s → more1 n τ sh a s
  | [], [], _ => ⟨rfl, fun i a b h _ => by simp at h⟩
  | a :: M, s :: l, h => by
    simp only [moreIs] at h
    obtain ⟨h1, h2⟩ := moreIs_get h.2
    refine ⟨by simp [h1], fun i x y hx hy => ?_⟩
    cases i with
    | zero => simp at hx hy; subst hx; subst hy; exact h.1
    | succ i => exact h2 i x y (by simpa using hx) (by simpa using hy)
  | [], _ :: _, h => by simp [moreIs] at h
  | _ :: _, [], h => by simp [moreIs] at h

/-- Where an entry comes from. -/
def srcOf : SV A → Option Nat
  | .vec j => some j
  | .ptr j 0 => some j
  | _ => none

theorem memN_iff {j : Nat} : ∀ {l : List Nat}, memN j l = true ↔ j ∈ l
  | [] => by simp [memN]
  | i :: l => by
    simp only [memN, List.mem_cons]
    split
    · rename_i e; simp [e]
    · rename_i e
      rw [memN_iff]
      exact ⟨.inr, fun h => h.elim (fun h => absurd h.symm e) id⟩

theorem distinct_get {P : List (SO A)} : ∀ {σ : List (SV A)} {seen : List Nat}, distinct P σ seen = true →
    (∀ (k : Nat) s, σ[k]? = some s → (∃ j, (s = .vec j ∨ s = .ptr j 0) ∧ srcOf s = some j ∧ isDead P j = true ∧ j ∉ seen) ∨ (s = .val (.slice none 0 0))) ∧
    (∀ (k k' : Nat) s s' j, σ[k]? = some s → σ[k']? = some s' → srcOf s = some j → srcOf s' = some j → k = k')
  | [], seen, _ => ⟨fun k s h => by simp at h, fun k k' s s' j h => by simp at h⟩
  | s :: l, seen, h => by
    unfold distinct at h
    split at h
    · rename_i e; cases e
    all_goals first | (cases h; done) | skip
    case h_2 | h_3 =>
      rename_i j l' e
      cases e
      split at h
      · rename_i hd
        split at h
        · cases h
        · rename_i hm
          obtain ⟨h1, h2⟩ := distinct_get h
          refine ⟨fun k s hk => ?_, fun k k' s s' i hk hk' hs hs' => ?_⟩
          · cases k with
            | zero =>
              simp at hk; subst hk
              first
              | exact .inl ⟨j, .inl rfl, rfl, hd, fun h3 => hm (memN_iff.2 h3)⟩
              | exact .inl ⟨j, .inr rfl, rfl, hd, fun h3 => hm (memN_iff.2 h3)⟩
            | succ k =>
              rcases h1 k s (by simpa using hk) with ⟨i, h3, h4, h5, h6⟩ | h3
              · exact .inl ⟨i, h3, h4, h5, fun h7 => h6 (List.mem_cons_of_mem _ h7)⟩
              · exact .inr h3
          · have key : ∀ (k : Nat) s, l[k]? = some s → srcOf s = some i → i ≠ j := by
              intro k s hk hs
              rcases h1 k s hk with ⟨i', h3, h4, h5, h6⟩ | h3
              · rw [hs] at h4; cases h4
                exact fun e => h6 (e ▸ List.mem_cons_self)
              · rw [h3] at hs; cases hs
            cases k with
            | zero =>
              cases k' with
              | zero => rfl
              | succ k' =>
                simp at hk; subst hk; cases hs
                exact absurd rfl (key k' s' (by simpa using hk') hs')
            | succ k =>
              cases k' with
              | zero =>
                simp at hk'; subst hk'; cases hs'
                exact absurd rfl (key k s (by simpa using hk) hs)
              | succ k' => rw [h2 k k' s s' i (by simpa using hk) (by simpa using hk') hs hs']
      · cases h
    case h_4 =>
      rename_i e
      cases e
      obtain ⟨h1, h2⟩ := distinct_get h
      refine ⟨fun k s hk => ?_, fun k k' s s' i hk hk' hs hs' => ?_⟩
      · cases k with
        | zero => simp at hk; subst hk; exact .inr rfl
        | succ k => exact h1 k s (by simpa using hk)
      · cases k with
        | zero => simp at hk; subst hk; cases hs
        | succ k =>
          cases k' with
          | zero => simp at hk'; subst hk'; cases hs'
          | succ k' => rw [h2 k k' s s' i (by simpa using hk) (by simpa using hk') hs hs']

def srcWit (env : List Wit) : SV A → Wit
  | .vec j => match env[j]? with
    | some x => x
    | none => .dead
  | .ptr j _ => match env[j]? with
    | some x => x
    | none => .dead
  | _ => .sl (.slice none 0 0)
def arrEnv (P : List (SO A)) (σ : List (SV A)) (env : List Wit) : List Wit := cutEnv P env ++ σ.map (srcWit env)

set_option maxHeartbeats 1000000 in
/-- The heap, as it is wanted. -/
theorem heap_arr2 {sh P M : List (SO A)} {σ : List (SV A)} (hC : ∀ t y, belowL 0 (C.enc t y) = true) (h : HR O env w C sh) (hd : distinct P σ [] = true)
    (hO2 : ∀ b, ¬ O b → ¬ owned env b → ¬ O2 b) (hout : ∀ b, owned (arrEnv P σ env) b → ¬ O2 b) (holt : ∀ b, O2 b → b < w.heap.size)
    (hbP : okOs P.length σ P = true) (hbM : okOs P.length σ M = true) (hp : preIs P.length σ sh P sh) (hm : moreIs P.length σ sh M σ) :
    HR O2 (arrEnv P σ env) w C (P ++ M) ∧ Arr P.length σ env (arrEnv P σ env) := by
  obtain ⟨hl, hget⟩ := preIs_get hp
  obtain ⟨hml, hmget⟩ := moreIs_get hm
  obtain ⟨hd1, hd2⟩ := distinct_get hd
  have hle : P.length ≤ env.length := by rw [← h.len]; exact hl
  have hlen : (cutEnv P env).length = P.length := cutEnv_len hle
  -- where each entry comes from
  have hsrc : ∀ (k : Nat) a s j, M[k]? = some a → σ[k]? = some s → srcOf s = some j → ∃ so x, sh[j]? = some so ∧ env[j]? = some x ∧ srcWit env s = x ∧ eqo (subO P.length σ a) (rslO sh so) ∧ a ≠ .dead := by
    intro k a s j ha hs hj
    have hmo := hmget k a s ha hs
    have hwit : ∀ so, nth sh j = some so → ∃ x, sh[j]? = some so ∧ env[j]? = some x ∧ srcWit env s = x := by
      intro so hso
      rw [nth_eq] at hso
      have h1 : j < env.length := by rw [← h.len]; exact (List.getElem?_eq_some_iff.1 hso).1
      have h2 : env[j]? = some env[j] := List.getElem?_eq_getElem h1
      refine ⟨_, hso, h2, ?_⟩
      unfold srcOf at hj
      split at hj
      · cases hj; simp only [srcWit, h2]
      · cases hj; simp only [srcWit, h2]
      · cases hj
    unfold more1 at hmo
    split at hmo
    · rename_i e k' xs j' 
      cases hj
      split at hmo
      · rename_i so hso
        obtain ⟨x, h1, h2, h3⟩ := hwit so hso
        refine ⟨so, x, h1, h2, h3, ?_, by simp⟩
        simp only [subO]
        cases so <;> first | exact hmo | (simp only [eqo] at hmo; cases hmo)
      · exact hmo.elim
    · rename_i e xs j'
      cases hj
      split at hmo
      · rename_i so hso
        obtain ⟨x, h1, h2, h3⟩ := hwit so hso
        refine ⟨so, x, h1, h2, h3, ?_, by simp⟩
        simp only [subO]
        cases so <;> first | exact hmo | (simp only [eqo] at hmo; cases hmo)
      · exact hmo.elim
    · rename_i e cs j' o'
      have hj' : j' = j := by
        unfold srcOf at hj
        split at hj
        · rename_i e'; cases e'
        · rename_i e'; cases e'; cases hj; rfl
        · cases hj
      subst hj'
      split at hmo
      · rename_i so hso
        obtain ⟨x, h1, h2, h3⟩ := hwit so hso
        exact ⟨so, x, h1, h2, h3, hmo, by simp⟩
      · exact hmo.elim
    · rename_i kt vt es st j' o'
      have hj' : j' = j := by
        unfold srcOf at hj
        split at hj
        · rename_i e'; cases e'
        · rename_i e'; cases e'; cases hj; rfl
        · cases hj
      subst hj'
      split at hmo
      · rename_i so hso
        obtain ⟨x, h1, h2, h3⟩ := hwit so hso
        refine ⟨so, x, h1, h2, h3, ?_, by simp⟩
        simp only [subO]
        cases so <;> first | exact hmo | (simp only [eqo] at hmo; cases hmo)
      · exact hmo.elim
    · cases hj
    · cases hj
    · exact hmo.elim
  have hgetP : ∀ (i : Nat) x, i < P.length → (arrEnv P σ env)[i]? = some x → (cutEnv P env)[i]? = some x := fun i x hi hx => by
    unfold arrEnv at hx
    rwa [List.getElem?_append_left (by rw [hlen]; exact hi)] at hx
  have hgetM : ∀ (i : Nat) x, P.length ≤ i → (arrEnv P σ env)[i]? = some x → ∃ s, σ[i - P.length]? = some s ∧ srcWit env s = x := fun i x hi hx => by
    unfold arrEnv at hx
    rw [List.getElem?_append_right (by rw [hlen]; exact hi), hlen, List.getElem?_map] at hx
    cases hs : σ[i - P.length]? with
    | none => rw [hs] at hx; simp at hx
    | some s => rw [hs] at hx; simp at hx; exact ⟨s, rfl, hx⟩
  -- who owns what: each owner is an old one
  have hfrom : ∀ (i : Nat) x b, (arrEnv P σ env)[i]? = some x → x.owns b → ∃ j, env[j]? = some x ∧ ((i = j ∧ i < P.length ∧ ∃ a, P[i]? = some a ∧ a ≠ .dead) ∨ (P.length ≤ i ∧ ∃ s, σ[i - P.length]? = some s ∧ srcOf s = some j ∧ isDead P j = true)) := by
    intro i x b hx ho
    rcases Nat.lt_or_ge i P.length with hi | hi
    · rcases cutEnv_get (hgetP i x hi hx) with ⟨a, h1, h2, h3⟩ | ⟨_, h1⟩
      · exact ⟨i, h3, .inl ⟨rfl, hi, a, h1, h2⟩⟩
      · rw [h1] at ho; exact ho.elim
    · obtain ⟨s, hs, hw⟩ := hgetM i x hi hx
      rcases hd1 _ s hs with ⟨j, h1, h2, h3, _⟩ | h1
      · refine ⟨j, ?_, .inr ⟨hi, s, hs, h2, h3⟩⟩
        have : srcWit env s = match env[j]? with | some x => x | none => .dead := by rcases h1 with rfl | rfl <;> rfl
        rw [this] at hw
        cases hj : env[j]? with
        | none => rw [hj] at hw; simp only at hw; rw [← hw] at ho; exact ho.elim
        | some y => rw [hj] at hw; simp only at hw; rw [hw]
      · rw [h1] at hw
        simp only [srcWit] at hw
        rw [← hw] at ho
        simp [Wit.owns, Value.ownBlock] at ho
  have hsub : ∀ b, owned (arrEnv P σ env) b → owned env b := fun b ⟨i, x, hx, ho⟩ => by
    obtain ⟨j, hj, _⟩ := hfrom i x b hx ho
    exact ⟨j, x, hj, ho⟩
  have harr : Arr P.length σ env (arrEnv P σ env) := by
    have hmk : ∀ (k : Nat) s, σ[k]? = some s → (arrEnv P σ env)[P.length + k]? = some (srcWit env s) := fun k s hs => by
      unfold arrEnv
      rw [List.getElem?_append_right (by omega), hlen, List.getElem?_map, Nat.add_sub_cancel_left, hs]; rfl
    have hin : ∀ (k : Nat) s j, σ[k]? = some s → srcOf s = some j → ∃ x, env[j]? = some x ∧ srcWit env s = x := fun k s j hs hj => by
      have hk : k < M.length := by rw [hml]; exact (List.getElem?_eq_some_iff.1 hs).1
      obtain ⟨so, x, _, h2, h3, _⟩ := hsrc k _ s j (List.getElem?_eq_getElem hk) hs hj
      exact ⟨x, h2, h3⟩
    refine ⟨fun i x hi hx => ?_, fun k j hs => ?_, fun k j o hs => ?_, fun k hs => ?_, hsub⟩
    · have h1 : i < (cutEnv P env).length := by rw [hlen]; exact hi
      have : (arrEnv P σ env)[i]? = some ((cutEnv P env)[i]) := by
        unfold arrEnv
        rw [List.getElem?_append_left h1]; exact List.getElem?_eq_getElem h1
      rw [this]
      rcases cutEnv_get (List.getElem?_eq_getElem h1) with ⟨_, _, _, h2⟩ | ⟨_, h2⟩
      · rw [hx] at h2; exact .inl h2.symm
      · exact .inr (by rw [h2])
    · obtain ⟨x, h1, h2⟩ := hin k _ j hs rfl
      rw [hmk k _ hs, h2, h1]
    · rcases hd1 k _ hs with ⟨j', h1, h2, _⟩ | h1
      · obtain ⟨x, h3, h4⟩ := hin k _ j' hs h2
        have : j' = j := by rcases h1 with h1 | h1 <;> cases h1; rfl
        subst this
        rw [hmk k _ hs, h4, h3]
      · cases h1
    · exact hmk k _ hs
  have hO : ∀ b, ¬ O b → ¬ owned env b → ¬ O2 b ∧ ¬ owned (arrEnv P σ env) b := fun b h1 h2 => ⟨hO2 b h1 h2, fun h3 => h2 (hsub b h3)⟩
  refine ⟨⟨?_, fun i so x h1 h2 => ?_, fun i j x y b h1 h2 hx hy => ?_, hout, fun b hb => h.lt b (hsub b hb), holt⟩, harr⟩
  · simp [arrEnv, hlen, hml]
  · rcases Nat.lt_or_ge i P.length with hi | hi
    · rw [List.getElem?_append_left hi] at h1
      rcases cutEnv_get (hgetP i x hi h2) with ⟨a, h3, h4, h5⟩ | ⟨h3, h4⟩
      · rw [h1] at h3; cases h3
        have hil : i < sh.length := by omega
        have hr := rslO_rep h (h.rep i _ x (List.getElem?_eq_getElem hil) h5)
        exact (eqo_rep (subO_ne h4) (hget i so _ h1 (List.getElem?_eq_getElem hil) h4) hr).arr2 hC harr hO (okOs_get hbP i so h1)
      · rw [h1] at h3; cases h3; exact h4
    · rw [List.getElem?_append_right hi] at h1
      obtain ⟨s, hs, hw⟩ := hgetM i x hi h2
      rcases hd1 _ s hs with ⟨j, h3, h4, h5, _⟩ | h3
      · obtain ⟨so', x', h6, h7, h8, h9, h10⟩ := hsrc _ so s j h1 hs h4
        rw [h8] at hw; subst hw
        have hr := rslO_rep h (h.rep j _ _ h6 h7)
        exact (eqo_rep (subO_ne h10) h9 hr).arr2 hC harr hO (okOs_get hbM _ so h1)
      · subst h3
        simp only [srcWit] at hw
        subst hw
        have hmo := hmget _ so _ h1 hs
        unfold more1 at hmo
        split at hmo
        all_goals first | (rename_i e; cases e; done) | skip
        all_goals first | exact hmo.elim | skip
        · subst hmo; exact ⟨by simp, .inl ⟨rfl, rfl⟩⟩
        · subst hmo; exact ⟨[], ⟨by simp, .inl ⟨rfl, rfl⟩⟩, fun j x hj => by simp at hj⟩
  · obtain ⟨p, h3, h4⟩ := hfrom i x b h1 hx
    obtain ⟨q, h5, h6⟩ := hfrom j y b h2 hy
    have hpq := h.disj p q x y b h3 h5 hx hy
    subst hpq
    have hdead : ∀ a, P[p]? = some a → a ≠ .dead → isDead P p = true → False := by
      intro a ha hne hde
      unfold isDead at hde
      rw [nth_eq, ha] at hde
      cases a <;> simp at hde hne
    rcases h4 with ⟨rfl, h7, a, h8, h9⟩ | ⟨h7, s, h8, h9, h10⟩ <;> rcases h6 with ⟨h11, h12, a', h13, h14⟩ | ⟨h11, s', h12, h13, h14⟩
    · omega
    · exact (hdead a h8 h9 h14).elim
    · subst h11; exact (hdead a' h13 h14 h10).elim
    · have := hd2 _ _ s s' p h8 h12 h9 h13
      omega

theorem arrEnv_sub {P : List (SO A)} {σ : List (SV A)} {env : List Wit} : ∀ b, owned (arrEnv P σ env) b → owned env b := by
  rintro b ⟨i, x, hx, ho⟩
  unfold arrEnv at hx
  rcases Nat.lt_or_ge i (cutEnv P env).length with hi | hi
  · rw [List.getElem?_append_left hi] at hx
    rcases cutEnv_get hx with ⟨_, _, _, h⟩ | ⟨_, h⟩
    · exact ⟨i, x, h, ho⟩
    · rw [h] at ho; exact ho.elim
  · rw [List.getElem?_append_right hi, List.getElem?_map] at hx
    cases hs : σ[i - (cutEnv P env).length]? with
    | none => rw [hs] at hx; simp at hx
    | some s =>
      rw [hs] at hx
      simp only [Option.map_some, Option.some.injEq] at hx
      subst hx
      unfold srcWit at ho
      split at ho
      · rename_i j
        cases hj : env[j]? with
        | none => rw [hj] at ho; exact ho.elim
        | some y => rw [hj] at ho; exact ⟨_, y, hj, ho⟩
      · rename_i j _
        cases hj : env[j]? with
        | none => rw [hj] at ho; exact ho.elim
        | some y => rw [hj] at ho; exact ⟨_, y, hj, ho⟩
      · simp [Wit.owns, Value.ownBlock] at ho

/-- The heap, as it is wanted. -/
theorem heap_arr {sh P M : List (SO A)} {σ : List (SV A)} (hC : ∀ t y, belowL 0 (C.enc t y) = true) (h : HR O env w C sh) (hd : distinct P σ [] = true)
    (hbP : okOs P.length σ P = true) (hbM : okOs P.length σ M = true) (hp : preIs P.length σ sh P sh) (hm : moreIs P.length σ sh M σ) :
    HR O (arrEnv P σ env) w C (P ++ M) ∧ Arr P.length σ env (arrEnv P σ env) :=
  heap_arr2 hC h hd (fun _ h _ => h) (fun b hb => h.out b (arrEnv_sub b hb)) h.olt hbP hbM hp hm

theorem Step.arr {env0 : List Wit} {w0 : World} {n : Nat} {σ : List (SV A)} (hs : Step env0 w0 env w) (hn : env0.length ≤ n) (hl : n ≤ env'.length) (hc : Arr n σ env env') : Step env0 w0 env' w := by
  refine ⟨hs.os, hs.tape, hs.output, hs.size, by omega, fun i x hx => ?_, fun b hb => hs.fresh b (hc.own b hb), hs.cells⟩
  have hi : i < n := by have := (List.getElem?_eq_some_iff.1 hx).1; omega
  obtain ⟨y, h1, h2⟩ := hs.keep i x hx
  rcases hc.keep i y hi h1 with h3 | h3
  · exact ⟨y, h3, h2⟩
  · exact ⟨_, h3, .inr (.inl rfl)⟩
end
end Go.Eng

/-! The engine is right: code with its loops; functions. Conditions: none. -/
namespace Go.Eng
open Go
variable {A : Nat → Type}

structure Sound (E : Eng A) : Prop where
  tt : ∀ g, Meets E.P E.C E.GL (E.qf g) g (E.TT g)
  below : ∀ n t y, belowL n (E.C.enc t y) = true
  mixed : E.P.follows .mixedOrders = true

/-- What code leaves, seen from where it began. -/
def PostW (E : Eng A) (O : Nat → Prop) (W : List Nat) (Q : Post A) (env : List Wit) (a : Act) (w : World) (e : Exit) (a' : Act) (w' : World) : Prop :=
  ∃ x ts' sh' env' n', exOf e = some x ∧ Rel E O ts' sh' env' a' w' ∧ Step env w env' w' ∧ WF ts' n' ∧ Same W a a' ∧ Q x ts' sh' n'

section
variable {E : Eng A} {O : Nat → Prop}

theorem exOf_normal {e : Exit} (h : exOf e = some .normal) : e = .normal := by
  cases e <;> simp [exOf] at h; rfl

theorem PostW.mono {W W' : List Nat} {Q : Post A} {env env1 : List Wit} {a a1 : Act} {w w1 : World} (hW : ∀ t, t ∈ W → t ∈ W') (hs : Step env w env1 w1) (hsm : Same W' a a1) {e : Exit} {a' : Act} {w' : World}
    (h : PostW E O W Q env1 a1 w1 e a' w') : PostW E O W' Q env a w e a' w' := by
  obtain ⟨x, ts', sh', env', n', h1, h2, h3, h4, h5, h6⟩ := h
  exact ⟨x, ts', sh', env', n', h1, h2, hs.trans h3, h4, hsm.trans (h5.mono hW), h6⟩

theorem rounds_succ_mono {P : Program} {c : Code} {Q : Exit → Act → World → Prop} : ∀ {n : Nat} {a : Act} {w : World}, Code.rounds P c Q n a w → Code.rounds P c Q (n + 1) a w
  | 0, _, _, h => h.elim
  | n + 1, a, w, h => by
    rw [rounds_succ] at h ⊢
    refine wp_mono h (fun e a' w' he => ?_)
    cases e <;> first | exact rounds_succ_mono he | exact he
theorem rounds_mono {P : Program} {c : Code} {Q : Exit → Act → World → Prop} {n m : Nat} (h : n ≤ m) {a : Act} {w : World} (hr : Code.rounds P c Q n a w) : Code.rounds P c Q m a w := by
  induction h with
  | refl => exact hr
  | step _ ih => exact rounds_succ_mono ih

theorem wp_loop_meas {P : Program} {c : Code} {Q : Exit → Act → World → Prop} (I : Nat → Act → World → Prop) (round : ∀ n a w, I n a w → c.wp P (Exit.then (fun a' w' => ∃ m, m < n ∧ I m a' w') Q) a w) {n : Nat} {a : Act} {w : World} (h : I n a w) :
    (Code.loop c).wp P Q a w := by
  have key : ∀ n a w, I n a w → Code.rounds P c Q (n + 1) a w := by
    intro n
    induction n using Nat.strongRecOn with
    | _ n ih =>
      intro a w hI
      rw [rounds_succ]
      refine wp_mono (round n a w hI) (fun e a' w' he => ?_)
      cases e
      case normal =>
        obtain ⟨m, hm, hIm⟩ := he
        exact rounds_mono hm (ih m hm a' w' hIm)
      all_goals exact he
  exact wp_loop_rounds (n + 1) (key n a w h)

/-! ### What a loop's head is like -/
theorem junkAll_get {ts : List (SV A)} : ∀ {l : List Nat} {t : Nat} {s : SV A}, (junkAll ts l)[t]? = some s → s = .junk ∨ (t ∉ l ∧ ts[t]? = some s) := by
  intro l
  induction l generalizing ts with
  | nil => intro t s h; exact .inr ⟨by simp, h⟩
  | cons x l ih =>
    intro t s h
    simp only [junkAll] at h
    rcases ih h with h1 | ⟨h1, h2⟩
    · exact .inl h1
    · rw [setNth_eq] at h2
      by_cases e : x = t
      · subst e
        have hl : x < ts.length := by have := (List.getElem?_eq_some_iff.1 h2).1; simpa using this
        rw [List.getElem?_set_self hl] at h2
        cases h2; exact .inl rfl
      · rw [List.getElem?_set_ne e] at h2
        exact .inr ⟨by simp [h1, Ne.symm e], h2⟩
theorem junkAll_len {ts : List (SV A)} : ∀ {l : List Nat}, (junkAll ts l).length = ts.length := by
  intro l
  induction l generalizing ts with
  | nil => rfl
  | cons x l ih => simp [junkAll, ih, setNth_eq]

theorem laySlots_len {n : Nat} {ts : List (SV A)} : ∀ {l : List (Nat × SV A)}, (laySlots n ts l).length = ts.length := by
  intro l
  induction l generalizing ts n with
  | nil => rfl
  | cons x l ih => simp [laySlots, ih, setNth_eq]

theorem laySlots_get {n : Nat} {ts : List (SV A)} : ∀ {l : List (Nat × SV A)} {t : Nat} {s : SV A}, (laySlots n ts l)[t]? = some s → (∃ p ∈ l, p.1 = t ∧ ∃ m, s = named m p.2) ∨ ts[t]? = some s := by
  intro l
  induction l generalizing ts n with
  | nil => intro t s h; exact .inr h
  | cons x l ih =>
    intro t s h
    simp only [laySlots] at h
    rcases ih h with ⟨p, hp, h1, h2⟩ | h1
    · exact .inl ⟨p, List.mem_cons_of_mem _ hp, h1, h2⟩
    · rw [setNth_eq] at h1
      by_cases e : x.1 = t
      · subst e
        have hl : x.1 < ts.length := by have := (List.getElem?_eq_some_iff.1 h1).1; simpa using this
        rw [List.getElem?_set_self hl] at h1
        cases h1; exact .inl ⟨x, List.mem_cons_self, rfl, n, rfl⟩
      · rw [List.getElem?_set_ne e] at h1
        exact .inr h1

theorem WF.laySlots {n : Nat} {ts : List (SV A)} (h : WF ts n) : ∀ {l : List (Nat × SV A)}, WF (laySlots n ts l) (n + cnt l) := by
  intro l
  induction l generalizing ts n with
  | nil => exact h
  | cons x l ih =>
    have h1 := h.put_new (some x.1) x.2
    have h2 := ih h1
    simp only [Eng.laySlots, cnt]
    rw [show n + (cnt l + 1) = n + 1 + cnt l from by omega]
    exact h2

theorem WF.junk {n : Nat} {ts : List (SV A)} (h : WF ts n) : ∀ {l : List Nat}, WF (junkAll ts l) n := by
  intro l
  induction l generalizing ts with
  | nil => exact h
  | cons x l ih =>
    exact ih (h.put_old (some x) .junk (.inr fun i c e => by cases e))

theorem slotsAre_get {n : Nat} {σ : List (SV A)} {ts : List (SV A)} {sh : List (SO A)} : ∀ {l : List (Nat × SV A)}, slotsAre n σ ts sh l → ∀ p ∈ l, slotIs n σ ts sh p.1 p.2
  | [], _, p, hp => by cases hp
  | [q], h, p, hp => by simp at hp; subst hp; exact h
  | q :: r :: l, h, p, hp => by
    rcases List.mem_cons.1 hp with e | hp
    · subst e; exact h.1
    · exact slotsAre_get (l := r :: l) h.2 p hp

theorem okSlots_get {n : Nat} {σ : List (SV A)} : ∀ {l : List (Nat × SV A)}, okSlots n σ l = true → ∀ p ∈ l, okV n σ p.2 = true
  | [], _, p, hp => by cases hp
  | q :: l, h, p, hp => by
    simp only [okSlots] at h
    rcases List.mem_cons.1 hp with e | hp
    · subst e; exact (ite_and h).1
    · exact okSlots_get (ite_and h).2 p hp

/-- What an arrival comes to. -/
theorem arr_heap {O : Nat → Prop} {C : Enc A} {P M : List (SO A)} {slots : List (Nat × SV A)} {ts : List (SV A)} {sh : List (SO A)} {env : List Wit} {w : World} (hC : ∀ t y, belowL 0 (C.enc t y) = true) (h : HR O env w C sh) (ha : arrS P M slots ts sh) :
    ∃ σ, (∀ p ∈ slots, okV P.length σ p.2 = true) ∧ slotsAre P.length σ ts sh slots ∧ HR O (arrEnv P σ env) w C (P ++ M) ∧ Arr P.length σ env (arrEnv P σ env) := by
  unfold arrS at ha
  split at ha
  case h_2 => exact ha.elim
  rename_i σ _
  split at ha
  case isFalse => exact ha.elim
  split at ha
  case isFalse => exact ha.elim
  split at ha
  case isFalse => exact ha.elim
  split at ha
  case isFalse => exact ha.elim
  rename_i h1 h2 h3 h4
  rw [cnt_eq] at *
  obtain ⟨h5, h6⟩ := heap_arr hC h h4 h1 h2 ha.2.1 ha.2.2
  exact ⟨σ, okSlots_get h3, ha.1, h5, h6⟩

theorem rel_free : ∀ {l : List (Nat × SV A)} {ts : List (SV A)} {sh : List (SO A)} {env : List Wit} {a : Act} {w : World}, Rel E O ts sh env a w → ∃ env', Rel E O (freeSlots l ts sh).1 (freeSlots l ts sh).2 env' a w ∧ Step env w env' w
  | [], ts, sh, env, a, w, h => ⟨env, h, Step.refl _ _⟩
  | (t, v) :: l, ts, sh, env, a, w, h => by
    unfold freeSlots
    split
    · split
      · rename_i s hs
        rw [nth_eq] at hs
        split
        · rename_i s' sh' hlet
          obtain ⟨u, hu, hr⟩ := h.tmps t s hs
          obtain ⟨env1, h1, h2, h3⟩ := letGo_spec h.heap hlet hr
          have hrel : Rel E O (setNth ts t s') sh' env1 a w := by
            refine ⟨h.defers, by rw [setNth_eq, List.length_set]; exact h.tsz, fun t' s2 ht => ?_, h1, h.glob.step h2⟩
            rw [setNth_eq] at ht
            by_cases e : t = t'
            · subst e
              have hl : t < ts.length := (List.getElem?_eq_some_iff.1 hs).1
              rw [List.getElem?_set_self hl] at ht
              cases ht
              exact ⟨u, hu, h3⟩
            · rw [List.getElem?_set_ne e] at ht
              obtain ⟨u2, h4, h5⟩ := h.tmps t' s2 ht
              exact ⟨u2, h4, h5.step h2⟩
          obtain ⟨env2, h4, h5⟩ := rel_free (l := l) hrel
          exact ⟨env2, h4, h2.trans h5⟩
        · exact rel_free h
      · exact rel_free h
    · exact rel_free h

/-- From where code stands to a loop's head. -/
theorem rel_head0 {hS : Sound E} {ts ts0 : List (SV A)} {sh sh0 : List (SO A)} {env env0 : List Wit} {a a0 : Act} {w w0 : World} {n : Nat} {Wr : List Nat} {slots : List (Nat × SV A)} {P M : List (SO A)}
    (h0 : Rel E O ts0 sh0 env0 a0 w0) (h : Rel E O ts sh env a w) (hs : Step env0 w0 env w) (hsm : Same Wr a0 a) (hwl : P.length = sh0.length)
    (harr : arrS P M slots ts sh) :
    ∃ env', Rel E O (laySlots n (junkAll ts0 Wr) slots) (joinL P M) env' a w ∧ Step env0 w0 env' w := by
  obtain ⟨σ, hbs, hsl, hh, hcut⟩ := arr_heap (hS.below 0) h.heap harr
  have hst : Step env0 w0 (arrEnv P σ env) w := hs.arr (n := P.length) (by rw [hwl, h0.heap.len]; exact Nat.le_refl _) (by rw [← hh.len]; simp) hcut
  rw [joinL_eq]
  refine ⟨_, ⟨h.defers, ?_, fun t s hts => ?_, hh, h0.glob.step hst⟩, hst⟩
  · rw [laySlots_len, junkAll_len]
    have h1 : a.tmps.size = a0.tmps.size := hsm.size
    rw [h1]; exact h0.tsz
  · rcases laySlots_get hts with ⟨p, hp, rfl, m, rfl⟩ | h1
    · have := slotsAre_get hsl p hp
      unfold slotIs at this
      split at this
      · rename_i s' hs'
        rw [nth_eq] at hs'
        obtain ⟨v, hv, hr⟩ := h.tmps _ _ hs'
        exact ⟨v, hv, rep_named m ((eqv_rep this (rslV_rep h.heap hr)).arr (hS.below 0) hcut _ (hbs p hp))⟩
      · exact this.elim
    · rcases junkAll_get h1 with h2 | ⟨h2, h3⟩
      · subst h2
        have hl : t < ts0.length := by
          have := (List.getElem?_eq_some_iff.1 hts).1
          rw [laySlots_len, junkAll_len] at this; exact this
        have hl2 : t < a.tmps.size := by rw [hsm.size, h0.tsz]; exact hl
        exact ⟨_, Array.getElem?_eq_getElem hl2, .junk⟩
      · obtain ⟨v, hv, hr⟩ := h0.tmps t s h3
        exact ⟨v, by rw [hsm.get t h2]; exact hv, hr.step hst⟩

theorem rel_head {hS : Sound E} {ts ts0 : List (SV A)} {sh sh0 : List (SO A)} {env env0 : List Wit} {a a0 : Act} {w w0 : World} {n : Nat} {Wr : List Nat} {slots : List (Nat × SV A)} {P M : List (SO A)}
    (h0 : Rel E O ts0 sh0 env0 a0 w0) (h : Rel E O ts sh env a w) (hs : Step env0 w0 env w) (hsm : Same Wr a0 a) (hwl : P.length = sh0.length)
    (harr : arrF P M slots ts sh) :
    ∃ env', Rel E O (laySlots n (junkAll ts0 Wr) slots) (joinL P M) env' a w ∧ Step env0 w0 env' w := by
  obtain ⟨env1, h1, h2⟩ := rel_free (l := slots) h
  unfold arrF at harr
  generalize freeSlots slots ts sh = x at h1 harr
  obtain ⟨ts', sh'⟩ := x
  exact rel_head0 (hS := hS) h0 h1 (hs.trans h2) hsm hwl harr

theorem layHeap_len {sh : List (SO A)} : ∀ {l : List (Nat × SO A)}, (layHeap sh l).length = sh.length := by
  intro l
  induction l generalizing sh with
  | nil => rfl
  | cons x l ih => simp [layHeap, ih, setNth_eq]

/-- Code comes to what the engine makes of it. -/
theorem codeS_sound (hS : Sound E) {ann : Anns A} : ∀ {c : Code} {Q : Post A} {ts : List (SV A)} {sh : List (SO A)} {n : Nat} {env : List Wit} {a : Act} {w : World},
    WF ts n → Rel E O ts sh env a w → codeS E ann c Q ts sh n → c.wp E.P (PostW E O (written c) Q env a w) a w := by
  intro c
  induction c with
  | skip =>
    intro Q ts sh n env a w hw h hk
    exact wp_skip ⟨_, ts, sh, env, n, rfl, h, Step.refl _ _, hw, Same.refl _ _, hk⟩
  | region id ops d =>
    intro Q ts sh n env a w hw h hk
    cases d with
    | false =>
      simp only [codeS, go_eq] at hk
      refine wp_region_list (opsS_sound (W := dsts ops.toList) hS.tt (fun o ho t ht => dsts_mem ho ht) hw h hk (fun ts' sh' n' env' a' w' hw' h' hs hsm hk' => ?_))
      exact ⟨_, ts', sh', env', n', rfl, h', hs, hw', hsm, hk'⟩
    | true =>
      simp only [codeS] at hk
      split at hk
      case isFalse => exact hk.elim
      rename_i hsel
      rw [go_eq] at hk
      refine region_drawn hS.mixed hS.tt hsel (fun c a w hq => ?_) hw h hk (fun ts' sh' n' env' a' w' hw' h' hs hsm hk' => ?_)
      · obtain ⟨x, _, _, _, _, h1, _⟩ := hq
        simp [exOf] at h1
      · exact ⟨_, ts', sh', env', n', rfl, h', hs, hw', hsm, hk'⟩
  | seq x y ihx ihy =>
    intro Q ts sh n env a w hw h hk
    simp only [codeS] at hk
    refine wp_seq (wp_mono (ihx hw h hk) (fun e a1 w1 he => ?_))
    obtain ⟨ex, ts1, sh1, env1, n1, h1, h2, h3, h4, h5, h6⟩ := he
    have hsm : Same (written (.seq x y)) a a1 := h5.mono (fun t ht => List.mem_append_left _ ht)
    cases ex with
    | normal =>
      have := exOf_normal h1
      subst this
      exact wp_mono (ihy h4 h2 h6) (fun e a2 w2 he => PostW.mono (fun t ht => List.mem_append_right _ ht) h3 hsm he)
    | exit id =>
      cases e <;> simp [exOf] at h1
      subst h1
      exact ⟨_, ts1, sh1, env1, n1, rfl, h2, h3, h4, hsm, h6⟩
    | ret =>
      cases e <;> simp [exOf] at h1
      exact ⟨_, ts1, sh1, env1, n1, rfl, h2, h3, h4, hsm, h6⟩
  | cond c x y ihx ihy =>
    intro Q ts sh n env a w hw h hk
    simp only [codeS] at hk
    have hc := ev_rep h c
    split at hk
    · rename_i e; rw [e] at hc
      exact wp_cond_true hc.inv_bl (wp_mono (ihx hw h hk) (fun e a2 w2 he => PostW.mono (fun t ht => List.mem_append_left _ ht) (Step.refl _ _) (Same.refl _ _) he))
    · rename_i e; rw [e] at hc
      exact wp_cond_false hc.inv_bl (wp_mono (ihy hw h hk) (fun e a2 w2 he => PostW.mono (fun t ht => List.mem_append_right _ ht) (Step.refl _ _) (Same.refl _ _) he))
    · rename_i i v e; rw [e] at hc
      have hold := ev_old (E := E) (ts := ts) c
      rw [e] at hold
      obtain ⟨t0, ht0⟩ : ∃ t : Nat, ts[t]? = some (.sb i v) := by
        rcases hold with h1 | h1
        · exact h1
        · exact absurd rfl (h1 i v)
      cases v with
      | true => exact wp_cond_true hc.inv_sb (wp_mono (ihx (hw.know i true) (rel_know hw ht0 h) (hk.1 rfl)) (fun e a2 w2 he => PostW.mono (fun t ht => List.mem_append_left _ ht) (Step.refl _ _) (Same.refl _ _) he))
      | false => exact wp_cond_false hc.inv_sb (wp_mono (ihy (hw.know i false) (rel_know hw ht0 h) (hk.2 rfl)) (fun e a2 w2 he => PostW.mono (fun t ht => List.mem_append_right _ ht) (Step.refl _ _) (Same.refl _ _) he))
    · exact hk.elim
  | block id c ih =>
    intro Q ts sh n env a w hw h hk
    simp only [codeS] at hk
    refine wp_block (wp_mono (ih hw h hk) (fun e a1 w1 he => ?_))
    obtain ⟨ex, ts1, sh1, env1, n1, h1, h2, h3, h4, h5, h6⟩ := he
    cases ex with
    | normal =>
      have := exOf_normal h1
      subst this
      exact ⟨_, ts1, sh1, env1, n1, rfl, h2, h3, h4, h5, h6⟩
    | exit i =>
      cases e <;> simp [exOf] at h1
      subst h1
      simp only [Exit.inBlock]
      simp only at h6
      split
      · rename_i e; rw [if_pos e] at h6; exact ⟨_, ts1, sh1, env1, n1, rfl, h2, h3, h4, h5, h6⟩
      · rename_i e; rw [if_neg e] at h6; exact ⟨_, ts1, sh1, env1, n1, rfl, h2, h3, h4, h5, h6⟩
    | ret =>
      cases e <;> simp [exOf] at h1
      exact ⟨_, ts1, sh1, env1, n1, rfl, h2, h3, h4, h5, h6⟩
  | loop c ih =>
    intro Q ts sh n env a w hw h hk
    simp only [codeS] at hk
    split at hk
    · exact hk.elim
    · rename_i L hL
      obtain ⟨⟨x0, hi0, harr0⟩, hround⟩ := hk
      refine wp_loop_meas (I := fun m a' w' => ∃ x env', L.inv x ∧ L.meas x = m ∧ Rel E O (laySlots n (junkAll ts (written c)) (L.slots x)) (joinL (layHeap sh (L.heap x)) (L.more x)) env' a' w' ∧ Step env w env' w' ∧ Same (written c) a a') ?_ (n := L.meas x0) ?_
      · rintro m a1 w1 ⟨x, env1, h1, h2, h3, h4, h5⟩
        have hwf : WF (laySlots n (junkAll ts (written c)) (L.slots x)) (n + cnt (L.slots x)) := (hw.junk).laySlots
        refine wp_mono (ih hwf h3 (hround x h1)) (fun e a2 w2 he => ?_)
        obtain ⟨ex, ts2, sh2, env2, n2, h6, h7, h8, h9, h10, h11⟩ := he
        cases ex with
        | normal =>
          have := exOf_normal h6
          subst this
          obtain ⟨y, h12, h13, h14⟩ := h11
          obtain ⟨env', h16, h17⟩ := rel_head (hS := hS) (n := n) h h7 (h4.trans h8) (h5.trans h10) layHeap_len h14
          exact ⟨L.meas y, by omega, y, env', h12, rfl, h16, h17, h5.trans h10⟩
        | exit i =>
          cases e <;> simp [exOf] at h6
          subst h6
          exact ⟨_, ts2, sh2, env2, n2, rfl, h7, h4.trans h8, h9, h5.trans h10, h11⟩
        | ret =>
          cases e <;> simp [exOf] at h6
          exact ⟨_, ts2, sh2, env2, n2, rfl, h7, h4.trans h8, h9, h5.trans h10, h11⟩
      · obtain ⟨env', h16, h17⟩ := rel_head (hS := hS) (n := n) h h (Step.refl _ _) (Same.refl (written c) a) layHeap_len harr0
        exact ⟨x0, env', hi0, rfl, h16, h17, Same.refl _ _⟩
  | exit id =>
    intro Q ts sh n env a w hw h hk
    exact wp_exit ⟨_, ts, sh, env, n, rfl, h, Step.refl _ _, hw, Same.refl _ _, hk⟩
  | ret =>
    intro Q ts sh n env a w hw h hk
    exact wp_ret ⟨_, ts, sh, env, n, rfl, h, Step.refl _ _, hw, Same.refl _ _, hk⟩
  | rangeFunc f p x y _ _ => intro Q ts sh n env a w hw h hk; exact hk.elim
  | scope c _ => intro Q ts sh n env a w hw h hk; exact hk.elim
  | label l => intro Q ts sh n env a w hw h hk; exact hk.elim
  | goto l => intro Q ts sh n env a w hw h hk; exact hk.elim
  | refuse s => intro Q ts sh n env a w hw h hk; exact hk.elim
end
end Go.Eng

/-! The engine is right: a function, over the heap that it is handed. Conditions: none. -/
namespace Go.Eng
open Go
variable {A : Nat → Type}

theorem callR_of_calls {P : Program} {f : FuncId} {fn : Func} {c : Code} {vs : Array Value} {w : World} {R : Value → World → Prop} (hf : P.funcs[f]? = some fn) (hname : (fn.name == "runtime.NumGoroutine") = false) (hb : fn.body = some c)
    (h : Calls P f vs w fun | .returned v, w' => R v w' | _, _ => False) : CallR P f vs w R := by
  intro o a next Q hn
  have hrun : (callFunc f vs).run P w = .ok (.enter f vs) w := by
    have h1 : fn.name ≠ "runtime.NumGoroutine" := by simpa using hname
    simp [callFunc, hf, h1, hb]
  rw [hrun, Oper.upon_enter]
  refine h.mono (fun e w' he => ?_)
  cases e with
  | returned v => exact hn v w' he
  | panicked c => exact he.elim
  | outgrown => exact he.elim

theorem nameAll_len (n : Nat) : ∀ l : List (SV A), (nameAll n l).length = l.length
  | [] => rfl
  | _ :: l => by simp [nameAll, nameAll_len (n + 1) l]
theorem padJ_len : ∀ n : Nat, (padJ n : List (SV A)).length = n
  | 0 => rfl
  | n + 1 => by simp [padJ, padJ_len n]
theorem padJ_get : ∀ {n t : Nat} {s : SV A}, (padJ n)[t]? = some s → s = .junk
  | 0, t, s, h => by simp [padJ] at h
  | n + 1, 0, s, h => by simp [padJ] at h; exact h.symm
  | n + 1, t + 1, s, h => by simp [padJ] at h; exact padJ_get h
theorem nameAll_get : ∀ {l : List (SV A)} {n t : Nat} {s : SV A}, (nameAll n l)[t]? = some s → ∃ v, l[t]? = some v ∧ s = named (n + t) v
  | [], n, t, s, h => by simp [nameAll] at h
  | v :: l, n, 0, s, h => by simp [nameAll] at h; exact ⟨v, rfl, h.symm⟩
  | v :: l, n, t + 1, s, h => by
    simp [nameAll] at h
    obtain ⟨u, h1, h2⟩ := nameAll_get h
    exact ⟨u, by simpa using h1, by rw [h2]; congr 1; omega⟩
theorem named_sb {n i : Nat} {c : Bool} {v : SV A} (h : SV.sb i c = named n v) : i = n := by
  unfold named at h
  split at h
  · cases h; rfl
  · rename_i hn; exact absurd h.symm (hn i c)
theorem start_get {l : List (SV A)} {m t i : Nat} {c : Bool} (h : (nameAll 0 l ++ padJ m)[t]? = some (.sb i c)) : i = t ∧ t < l.length := by
  rcases Nat.lt_or_ge t l.length with ht | ht
  · rw [List.getElem?_append_left (by rw [nameAll_len]; exact ht)] at h
    obtain ⟨v, _, h2⟩ := nameAll_get h
    have := named_sb h2
    exact ⟨by omega, ht⟩
  · rw [List.getElem?_append_right (by rw [nameAll_len]; exact ht)] at h
    have := padJ_get h
    cases this
theorem WF.start (l : List (SV A)) (m : Nat) : WF (nameAll 0 l ++ padJ m) (cnt l) where
  lt := fun t i c h => by
    have := start_get h
    rw [cnt_eq]; omega
  one := fun t t' i c c' h h' => by
    have h1 := start_get h
    have h2 := start_get h'
    have e : t = t' := by omega
    subst e
    rw [h] at h'
    cases h'; rfl

section
variable {E : Eng A} {O : Nat → Prop} {ts : List (SV A)} {sh : List (SO A)} {env : List Wit} {a : Act} {w : World}

theorem argsR_get {O : Nat → Prop} {env : List Wit} {w : World} {C : Enc A} : ∀ {l : List (SV A)} {vs : List Value}, ArgsR O env w C l vs → l.length = vs.length ∧ ∀ (t : Nat) s, l[t]? = some s → ∃ v, vs[t]? = some v ∧ Rep O env w C s v
  | [], vs, h => by
    have : vs = [] := h
    subst this
    exact ⟨rfl, fun t s h => by simp at h⟩
  | s :: l, vs, h => by
    obtain ⟨u, us, rfl, h1, h2⟩ := h
    obtain ⟨h3, h4⟩ := argsR_get h2
    refine ⟨by simp [h3], fun t s' ht => ?_⟩
    cases t with
    | zero => simp at ht; subst ht; exact ⟨u, rfl, h1⟩
    | succ t => simpa using h4 t s' (by simpa using ht)

theorem rel_start {l : List (SV A)} {vs : List Value} {n : Nat} (ha : ArgsR O env w E.C l vs) (hh : HR O env w E.C sh) (hg : Glob E.GL O env w E.C) :
    Rel E O (nameAll 0 l ++ padJ (n - cnt l)) sh env { tmps := vs.toArray ++ Array.replicate (n - vs.toArray.size) undef, defers := [] } w := by
  obtain ⟨h1, h2⟩ := argsR_get ha
  refine ⟨rfl, ?_, fun t s ht => ?_, hh, hg⟩
  · simp [nameAll_len, padJ_len, cnt_eq, h1]
  · rcases Nat.lt_or_ge t l.length with hl | hl
    · rw [List.getElem?_append_left (by rw [nameAll_len]; exact hl)] at ht
      obtain ⟨v, h3, rfl⟩ := nameAll_get ht
      obtain ⟨u, h4, h5⟩ := h2 t v h3
      refine ⟨u, ?_, rep_named _ h5⟩
      simp only
      rw [Array.getElem?_append_left (by simp; omega)]
      simpa using h4
    · rw [List.getElem?_append_right (by rw [nameAll_len]; exact hl)] at ht
      have hlt := (List.getElem?_eq_some_iff.1 ht).1
      have := padJ_get ht
      subst this
      rw [nameAll_len, padJ_len, cnt_eq] at hlt
      simp only
      rw [Array.getElem?_append_right (by simp; omega)]
      refine ⟨undef, ?_, .junk⟩
      rw [Array.getElem?_replicate, if_pos (by simp; omega)]

def resM (tmps : Array Value) : ResultVar → Sem Value
  | .tmp t => pure (tmps.getD t undef)
  | .cell a t => do loadVar t (← asAddr (tmps.getD a undef))
theorem results_eq (fn : Func) (tmps : Array Value) : results fn tmps = (do
    let vs ← fn.results.mapM (resM tmps)
    pure (if h : vs.size = 1 then vs[0] else .tuple vs)) := by
  unfold results
  congr 1

/-- What is handed back, in memory. -/
theorem resS_rep (h : Rel E O ts sh env a w) : ∀ {l : List ResultVar} {K : List (SV A) → Prop}, resS E ts sh l K → ∃ (ss : List (SV A)) (vs : List Value), K ss ∧ ArgsR O env w E.C ss vs ∧
    (l.mapM (resM a.tmps)).run E.P w = .ok vs w
  | [], K, hr => ⟨[], [], hr, rfl, by simp⟩
  | .tmp t :: l, K, hr => by
    simp only [resS] at hr
    split at hr
    · rename_i s hs
      rw [nth_eq] at hs
      obtain ⟨v, hv, h1⟩ := h.tmps t s hs
      obtain ⟨ss, vs, hK, h2, h4⟩ := resS_rep h hr
      refine ⟨s :: ss, v :: vs, hK, ⟨v, vs, rfl, h1, h2⟩, ?_⟩
      have hd : a.tmps.getD t undef = v := by simp [Array.getD_eq_getD_getElem?, hv]
      simp [List.mapM_cons, resM, hd, h4]
    · exact hr.elim
  | .cell x t :: l, K, hr => by
    simp only [resS] at hr
    obtain ⟨ad, v, s, hx, h1, h2, h3⟩ := run_loadS h hr
    obtain ⟨ss, vs, hK, h5, h4⟩ := resS_rep h h3
    refine ⟨s :: ss, v :: vs, hK, ⟨v, vs, rfl, h2, h5⟩, ?_⟩
    have hd : a.tmps.getD x undef = .pointer (some ad) := hx
    simp [List.mapM_cons, resM, hd, h4, asAddr, h1 w (Old.refl _)]

theorem run_results {fn : Func} (h : Rel E O ts sh env a w) {K : List (SV A) → Prop} (hr : resS E ts sh fn.results.toList K) :
    ∃ ss v, K ss ∧ (results fn a.tmps).run E.P w = .ok v w ∧ ∃ vs : List Value, ArgsR O env w E.C ss vs ∧ v = (if h : vs.toArray.size = 1 then vs.toArray[0] else .tuple vs.toArray) := by
  obtain ⟨ss, vs, hK, h1, h3⟩ := resS_rep h hr
  refine ⟨ss, _, hK, ?_, vs, h1, rfl⟩
  rw [results_eq, Array.mapM_eq_mapM_toList]
  simp [h3]

theorem argsR_mkL {O : Nat → Prop} {env : List Wit} {w : World} {C : Enc A} : ∀ {l : List (SV A)} {vs : List Value}, ArgsR O env w C l vs → RepL O env w C (mkL l) vs
  | [], _, h => by
    have := h
    simp only [ArgsR] at this
    subst this; exact .nil
  | _ :: _, _, ⟨u, us, e, h1, h2⟩ => by subst e; exact .cell h1 (argsR_mkL h2)
theorem resV_rep {O : Nat → Prop} {env : List Wit} {w : World} {C : Enc A} {ss : List (SV A)} {vs : List Value} (h : ArgsR O env w C ss vs) : Rep O env w C (resV ss) (if h : vs.toArray.size = 1 then vs.toArray[0] else .tuple vs.toArray) := by
  have hl := (argsR_get h).1
  match ss, vs, hl, h with
  | [], [], _, h => simpa [resV, mkL] using Rep.tup [] .nil
  | [s], [v], _, h =>
    obtain ⟨u, us, e, h1, _⟩ := h
    simp at e
    simpa [resV, e.1] using h1
  | a :: b :: l, x :: y :: m, _, h =>
    have := Rep.tup _ (argsR_mkL h)
    simpa [resV] using this

theorem argsR_step {O : Nat → Prop} {env env' : List Wit} {w w' : World} {C : Enc A} (hs : Step env w env' w') : ∀ {l : List (SV A)} {vs : List Value}, ArgsR O env w C l vs → ArgsR O env' w' C l vs
  | [], _, h => h
  | _ :: _, _, ⟨u, us, e, h1, h2⟩ => ⟨u, us, e, h1.step hs, argsR_step hs h2⟩

theorem endL_spec : ∀ {ws cs cs' : SL A} {sh sh' : List (SO A)} {env : List Wit} {vs : List Value}, HR O env w E.C sh → endL sh ws cs = some (cs', sh') → RepL O env w E.C cs vs →
    ∃ env', HR O env' w E.C sh' ∧ Step env w env' w ∧ RepL O env' w E.C cs' vs
  | .cell a r, .cell h s, _, sh, _, env, vs, hh, hk, hr => by
    simp only [endL] at hk
    split at hk
    · rename_i h' sh1 h1
      split at hk
      · rename_i s' sh2 h2
        cases hk
        obtain ⟨u, us, rfl, h3, h4⟩ := hr.inv_cell
        have h5 : ∃ env1, HR O env1 w E.C sh1 ∧ Step env w env1 w ∧ Rep O env1 w E.C h' u := by
          split at h1
          · cases h1; exact ⟨env, hh, Step.refl _ _, h3⟩
          · exact letGo_spec hh h1 h3
        obtain ⟨env1, h6, h7, h8⟩ := h5
        obtain ⟨env2, h9, h10, h11⟩ := endL_spec h6 h2 (h4.step h7)
        exact ⟨env2, h9, h7.trans h10, .cell (h8.step h10) h11⟩
      · cases hk
    · cases hk
  | .run _ _ _ r, .run k n xs s, _, sh, _, env, vs, hh, hk, hr => by
    simp only [endL] at hk
    split at hk
    · rename_i s' sh2 h2
      cases hk
      obtain ⟨us, hn, rfl, h3⟩ := hr.inv_run
      obtain ⟨env2, h9, h10, h11⟩ := endL_spec hh h2 h3
      exact ⟨env2, h9, h10, .run hn h11⟩
    · cases hk
  | .nil, .nil, _, _, _, _, _, hh, hk, hr => letGoL_spec hh (by simpa only [endL] using hk) hr
  | .nil, .cell _ _, _, _, _, _, _, hh, hk, hr => letGoL_spec hh (by simpa only [endL] using hk) hr
  | .nil, .run _ _ _ _, _, _, _, _, _, hh, hk, hr => letGoL_spec hh (by simpa only [endL] using hk) hr
  | .cell _ _, .nil, _, _, _, _, _, hh, hk, hr => letGoL_spec hh (by simpa only [endL] using hk) hr
  | .cell _ _, .run _ _ _ _, _, _, _, _, _, hh, hk, hr => letGoL_spec hh (by simpa only [endL] using hk) hr
  | .run _ _ _ _, .nil, _, _, _, _, _, hh, hk, hr => letGoL_spec hh (by simpa only [endL] using hk) hr
  | .run _ _ _ _, .cell _ _, _, _, _, _, _, hh, hk, hr => letGoL_spec hh (by simpa only [endL] using hk) hr

theorem end1_spec {want have_ v' : SV A} {sh' : List (SO A)} {v : Value} (hh : HR O env w E.C sh) (hk : end1 sh want have_ = some (v', sh')) (hr : Rep O env w E.C have_ v) :
    ∃ env', HR O env' w E.C sh' ∧ Step env w env' w ∧ Rep O env' w E.C v' v := by
  unfold end1 at hk
  split at hk
  · cases hk; exact ⟨env, hh, Step.refl _ _, hr⟩
  · cases hk; exact ⟨env, hh, Step.refl _ _, hr⟩
  · split at hk
    · split at hk
      · split at hk
        · rename_i h1
          cases hk
          obtain ⟨us, rfl, h2⟩ := hr.inv_agg
          obtain ⟨env', h3, h4, h5⟩ := endL_spec hh h1 h2
          exact ⟨env', h3, h4, .agg us h5⟩
        · cases hk
      · cases hk
    · exact letGoV_spec hh hk hr
  · exact letGoV_spec hh hk hr

theorem endS_spec : ∀ {ws l l' : List (SV A)} {vs : List Value} {sh sh' : List (SO A)} {env : List Wit}, HR O env w E.C sh → endS sh ws l = some (l', sh') → ArgsR O env w E.C l vs →
    ∃ env', HR O env' w E.C sh' ∧ Step env w env' w ∧ ArgsR O env' w E.C l' vs
  | [], [], _, vs, sh, _, env, hh, hk, hr => by
    simp only [endS, Option.some.injEq, Prod.mk.injEq] at hk
    obtain ⟨rfl, rfl⟩ := hk
    exact ⟨env, hh, Step.refl _ _, hr⟩
  | s :: r, h :: l, _, vs, sh, _, env, hh, hk, hr => by
    simp only [endS] at hk
    split at hk
    · rename_i v1 sh1 h1
      split at hk
      · rename_i l1 sh2 h2
        cases hk
        obtain ⟨u, us, rfl, h3, h4⟩ := hr
        obtain ⟨env1, h5, h6, h7⟩ := end1_spec hh h1 h3
        obtain ⟨env2, h8, h9, h10⟩ := endS_spec h5 h2 (argsR_step h6 h4)
        exact ⟨env2, h8, h6.trans h9, u, us, rfl, h7.step h9, h10⟩
      · cases hk
    · cases hk
  | [], _ :: _, _, _, _, _, _, _, hk, _ => by simp [endS] at hk
  | _ :: _, [], _, _, _, _, _, _, hk, _ => by simp [endS] at hk

theorem takeN_drop {α : Type _} : ∀ (n : Nat) (l : List α), takeN n l ++ dropN n l = l
  | 0, l => rfl
  | n + 1, [] => rfl
  | n + 1, x :: l => by simp [takeN, dropN, takeN_drop n l]
theorem takeN_len {α : Type _} : ∀ {n : Nat} {l : List α}, n ≤ l.length → (takeN n l).length = n
  | 0, l, _ => rfl
  | n + 1, [], h => by simp at h
  | n + 1, x :: l, h => by simp [takeN, takeN_len (n := n) (l := l) (by simpa using h)]
theorem slotsFrom_get {l : List (SV A)} : ∀ {n : Nat} {k : Nat} {s : SV A}, l[k]? = some s → (n + k, s) ∈ slotsFrom n l := by
  induction l with
  | nil => intro n k s h; simp at h
  | cons x l ih =>
    intro n k s h
    cases k with
    | zero => simp at h; subst h; exact List.mem_cons_self
    | succ k =>
      have := ih (n := n + 1) (k := k) (s := s) (by simpa using h)
      rw [show n + (k + 1) = n + 1 + k from by omega]
      exact List.mem_cons_of_mem _ this

theorem nth_lt {σ : List (SV A)} {k : Nat} {s : SV A} (h : nth σ k = some s) : k < σ.length := by
  rw [nth_eq] at h; exact (List.getElem?_eq_some_iff.1 h).1
theorem ite_of {p : Prop} [Decidable p] (h : p) : (if p then true else false) = true := if_pos h
theorem ite_both {p q : Bool} (h : p = true) (k : q = true) : (if p = true then q else false) = true := by rw [if_pos h]; exact k
mutual
theorem okV_below {n : Nat} {σ : List (SV A)} : ∀ (s : SV A), okV n σ s = true → belowV (n + σ.length) s = true
  | .junk, _ => rfl
  | .undef, _ => rfl
  | .val _, _ => rfl
  | .int _ _, _ => rfl
  | .lit _ _, _ => rfl
  | .bl _, _ => rfl
  | .sb _ _, _ => rfl
  | .err _ _, _ => rfl
  | .rints _ _, _ => rfl
  | .rseq _ _, _ => rfl
  | .ptr i o, h => by
    simp only [okV] at h; simp only [belowV]
    split at h
    · exact ite_of (by omega)
    · unfold ptrSrc at h
      split at h
      · rename_i hj; have := nth_lt hj; exact ite_of (by omega)
      · cases h
  | .vec i, h => by
    simp only [okV] at h; simp only [belowV]
    split at h
    · exact ite_of (by omega)
    · unfold vecSrc at h
      split at h
      · rename_i hj; have := nth_lt hj; exact ite_of (by omega)
      · rename_i hj; have := nth_lt hj; exact ite_of (by omega)
      · cases h
  | .aptr i o m j, h => by simp only [okV] at h; simp only [belowV]; have := ite_tt h; exact ite_of (by omega)
  | .asl i o m, h => by simp only [okV] at h; simp only [belowV]; have := ite_tt h; exact ite_of (by omega)
  | .vptr i j s o, h => by simp only [okV] at h; simp only [belowV]; have := ite_tt h; exact ite_of (by omega)
  | .rptr cs o, h => by simp only [okV] at h; simp only [belowV]; exact okL_below cs h
  | .iface t v, h => by simp only [okV] at h; simp only [belowV]; exact okV_below v h
  | .fn f x y, h => by simp only [okV] at h; simp only [belowV]; exact ite_both (okL_below x (ite_and h).1) (okL_below y (ite_and h).2)
  | .agg cs, h => by simp only [okV] at h; simp only [belowV]; exact okL_below cs h
  | .tup cs, h => by simp only [okV] at h; simp only [belowV]; exact okL_below cs h
theorem okL_below {n : Nat} {σ : List (SV A)} : ∀ (cs : SL A), okL n σ cs = true → belowL (n + σ.length) cs = true
  | .nil, _ => rfl
  | .cell v r, h => by simp only [okL] at h; simp only [belowL]; exact ite_both (okV_below v (ite_and h).1) (okL_below r (ite_and h).2)
  | .run _ _ _ r, h => by simp only [okL] at h; simp only [belowL]; exact okL_below r h
end
theorem okOs_below {n : Nat} {σ : List (SV A)} : ∀ (l : List (SO A)), okOs n σ l = true → belowOs (n + σ.length) l = true
  | [], _ => rfl
  | o :: l, h => by
    simp only [okOs] at h; simp only [belowOs]
    refine ite_both ?_ (okOs_below l (ite_and h).2)
    have h1 := (ite_and h).1
    cases o <;> first | rfl | skip
    · exact okL_below _ h1
    · exact okV_below _ h1
theorem belowVs_of {n : Nat} : ∀ {l : List (SV A)}, (∀ (k : Nat) s, l[k]? = some s → belowV n s = true) → belowL n (mkL l) = true
  | [], _ => rfl
  | s :: l, h => by
    simp only [mkL, belowL]
    exact ite_both (h 0 s rfl) (belowVs_of fun k s hk => h (k + 1) s (by simpa using hk))
theorem belowV_resV {n : Nat} {l : List (SV A)} (h : ∀ (k : Nat) s, l[k]? = some s → belowV n s = true) : belowV n (resV l) = true := by
  match l, h with
  | [s], h => exact h 0 s rfl
  | [], h => rfl
  | a :: b :: l, h => exact belowVs_of h

theorem belowOs_app {n : Nat} : ∀ {l m : List (SO A)}, belowOs n l = true → belowOs n m = true → belowOs n (l ++ m) = true
  | [], _, _, h => h
  | o :: l, m, h, k => by
    simp only [belowOs] at h
    simp only [List.cons_append, belowOs]
    exact ite_both (ite_and h).1 (belowOs_app (ite_and h).2 k)

/-- A function does what its contract says, over the heap that it is handed. -/
theorem fn_calls (hS : Sound E) {f : FuncId} {fn : Func} {body : Code} (hf : E.P.funcs[f]? = some fn) (hb : fn.body = some body) {L : LS A} {ann : L.X → Anns A}
    (hL : fnS E fn body L ann) (hle : ∀ x, L.pre x → (L.hin x).length ≤ (L.hout x).length) {x : L.X} (hx : L.pre x) {vs : List Value} (ha : ArgsR O env w E.C (L.args x) vs) (hh : HR O env w E.C (L.hin x)) (hg : Glob E.GL O env w E.C) :
    Calls E.P f vs.toArray w fun | .returned v, w' => (∃ env', Rep O env' w' E.C (resV (L.res x)) v ∧ HR O env' w' E.C (L.hout x) ∧ Step env w env' w' ∧ belowV (L.hout x).length (resV (L.res x)) = true ∧ belowOs (L.hout x).length (L.hout x) = true) | _, _ => False := by
  refine calls_of_wp hf hb (wp_mono (codeS_sound hS (WF.start _ _) (rel_start ha hh hg) (hL x hx)) (fun e a' w' he => ?_))
  obtain ⟨ex, ts', sh', env', n', h1, h2, h3, h4, h5, h6⟩ := he
  have key : (resS E ts' sh' fn.results.toList fun l => match endS sh' (L.res x) l with
      | some (l', sh') => arrS (takeN (cnt (L.hin x)) (L.hout x)) (dropN (cnt (L.hin x)) (L.hout x)) (slotsFrom 0 (L.res x)) l' sh'
      | none => False) → a'.defers = [] ∧ ∃ v, (results fn a'.tmps).run E.P w' = .ok v w' ∧ ∃ env', Rep O env' w' E.C (resV (L.res x)) v ∧ HR O env' w' E.C (L.hout x) ∧ Step env w env' w' ∧ belowV (L.hout x).length (resV (L.res x)) = true ∧ belowOs (L.hout x).length (L.hout x) = true := by
    intro hk
    obtain ⟨ss, v, hK, hrun, vs, h7, rfl⟩ := run_results h2 hk
    split at hK
    case h_2 => exact hK.elim
    rename_i l' sh2 hend
    obtain ⟨env2, h8, h9, h10⟩ := endS_spec h2.heap hend h7
    obtain ⟨σ, hok, hsl, h12, h13⟩ := arr_heap (hS.below 0) h8 hK
    rw [takeN_drop] at h12
    have hP : (takeN (cnt (L.hin x)) (L.hout x)).length = (L.hin x).length := by rw [cnt_eq]; exact takeN_len (hle x hx)
    have hn : (takeN (cnt (L.hin x)) (L.hout x)).length + σ.length = (L.hout x).length := by
      have h14 := h12.len
      simp only [arrEnv, List.length_append, List.length_map] at h14
      rw [cutEnv_len] at h14
      · exact h14.symm
      · have := h8.len
        unfold arrS at hK
        split at hK
        case h_2 => exact hK.elim
        split at hK
        case isFalse => exact hK.elim
        split at hK
        case isFalse => exact hK.elim
        split at hK
        case isFalse => exact hK.elim
        split at hK
        case isFalse => exact hK.elim
        have := (preIs_get hK.2.1).1
        omega
    have hres : ∀ (k : Nat) s, (L.res x)[k]? = some s → ∃ u, vs[k]? = some u ∧ Rep O (arrEnv (takeN (cnt (L.hin x)) (L.hout x)) σ env2) w' E.C s u ∧ belowV (L.hout x).length s = true := by
      intro k s hk
      have hm := slotsFrom_get (n := 0) hk
      rw [Nat.zero_add] at hm
      have h14 := slotsAre_get hsl _ hm
      unfold slotIs at h14
      split at h14
      · rename_i s' hs'
        rw [nth_eq] at hs'
        obtain ⟨u, hu, hr⟩ := (argsR_get h10).2 k s' hs'
        exact ⟨u, hu, (eqv_rep h14 (rslV_rep h8 hr)).arr (hS.below 0) h13 _ (hok _ hm), by rw [← hn]; exact okV_below _ (hok _ hm)⟩
      · exact h14.elim
    have hlen : (L.res x).length = vs.length := by
      have e1 : ∀ (ws l l' : List (SV A)) (s s' : List (SO A)), endS s ws l = some (l', s') → ws.length = l.length := by
        intro ws
        induction ws with
        | nil => intro l l' s s' h; cases l <;> simp [endS] at h; rfl
        | cons x ws ih =>
          intro l l' s s' h
          cases l with
          | nil => simp [endS] at h
          | cons y l =>
            simp only [endS] at h
            split at h
            · split at h
              · rename_i h2; simp [ih _ _ _ _ h2]
              · cases h
            · cases h
      rw [e1 _ _ _ _ _ hend]; exact (argsR_get h7).1
    have hargs : ArgsR O (arrEnv (takeN (cnt (L.hin x)) (L.hout x)) σ env2) w' E.C (L.res x) vs := by
      generalize L.res x = rs at hres hlen
      clear hrun h7 h10
      induction rs generalizing vs with
      | nil => exact List.eq_nil_of_length_eq_zero hlen.symm
      | cons r rs ih =>
        cases vs with
        | nil => simp at hlen
        | cons u us =>
          obtain ⟨u', hu, h15, _⟩ := hres 0 r rfl
          simp at hu; subst hu
          exact ⟨u, us, rfl, h15, ih us (fun k s hk => by simpa using hres (k + 1) s (by simpa using hk)) (by simpa using hlen)⟩
    have hob : belowOs (L.hout x).length (L.hout x) = true := by
      unfold arrS at hK
      split at hK
      case h_2 => exact hK.elim
      rename_i σ' hσ'
      split at hK
      case isFalse => exact hK.elim
      split at hK
      case isFalse => exact hK.elim
      rename_i hb1 hb2
      split at hK
      case isFalse => exact hK.elim
      split at hK
      case isFalse => exact hK.elim
      have hml := (moreIs_get hK.2.2).1
      have e2 : (takeN (cnt (L.hin x)) (L.hout x)).length + σ'.length = (L.hout x).length := by
        rw [← hml, ← List.length_append, takeN_drop]
      have h16 := belowOs_app (okOs_below _ hb1) (okOs_below _ hb2)
      rw [takeN_drop, cnt_eq (takeN _ _), e2] at h16
      exact h16
    refine ⟨h2.defers, _, hrun, _, resV_rep hargs, h12, (h3.trans h9).arr (n := (takeN (cnt (L.hin x)) (L.hout x)).length) ?_ ?_ h13, belowV_resV (fun k s hk => (hres k s hk).elim fun _ h => h.2.2), hob⟩
    · rw [hP, hh.len]; exact Nat.le_refl _
    · rw [← h12.len]; omega
  cases ex with
  | exit i => exact h6.elim
  | normal =>
    cases e <;> simp [exOf] at h1
    obtain ⟨h7, v, h8, h9⟩ := key h6
    exact ⟨h7, v, h8, h9⟩
  | ret =>
    cases e <;> simp [exOf] at h1
    obtain ⟨h7, v, h8, h9⟩ := key h6
    exact ⟨h7, v, h8, h9⟩
/-- A function does what its contract says, over the heap that it is handed. -/
theorem fn_local (hS : Sound E) {f : FuncId} {fn : Func} {body : Code} (hf : E.P.funcs[f]? = some fn) (hname : (fn.name == "runtime.NumGoroutine") = false) (hb : fn.body = some body) {L : LS A} {ann : L.X → Anns A}
    (hL : fnS E fn body L ann) (hle : ∀ x, L.pre x → (L.hin x).length ≤ (L.hout x).length) {x : L.X} (hx : L.pre x) {vs : List Value} (ha : ArgsR O env w E.C (L.args x) vs) (hh : HR O env w E.C (L.hin x)) (hg : Glob E.GL O env w E.C) :
    CallR E.P f vs.toArray w fun v w' => ∃ env', Rep O env' w' E.C (resV (L.res x)) v ∧ HR O env' w' E.C (L.hout x) ∧ Step env w env' w' ∧ belowV (L.hout x).length (resV (L.res x)) = true ∧ belowOs (L.hout x).length (L.hout x) = true := by
  exact callR_of_calls hf hname hb (fn_calls hS hf hb hL hle hx ha hh hg)
end
end Go.Eng

/-! The engine is right: a function that is handed no memory to write in, called from anywhere. Conditions: none. -/
namespace Go.Eng
open Go
variable {A : Nat → Type}

mutual
/-- Other numbers for the heap's entries. -/
def ren (f : Nat → Nat) : SV A → SV A
  | .ptr i o => .ptr (f i) o
  | .aptr i o n j => .aptr (f i) o n j
  | .asl i o n => .asl (f i) o n
  | .vec i => .vec (f i)
  | .vptr i j s o => .vptr (f i) j s o
  | .rptr cs o => .rptr (renL f cs) o
  | .iface t v => .iface t (ren f v)
  | .fn g a b => .fn g (renL f a) (renL f b)
  | .agg cs => .agg (renL f cs)
  | .tup cs => .tup (renL f cs)
  | s => s
def renL (f : Nat → Nat) : SL A → SL A
  | .nil => .nil
  | .cell v r => .cell (ren f v) (renL f r)
  | .run k n xs r => .run k n xs (renL f r)
end
def renO (f : Nat → Nat) : SO A → SO A
  | .cells e cs => .cells e (renL f cs)
  | .fr s => .fr (ren f s)
  | o => o
def renOs (f : Nat → Nat) : List (SO A) → List (SO A)
  | [] => []
  | o :: l => renO f o :: renOs f l
theorem renOs_eq (f : Nat → Nat) : ∀ l : List (SO A), renOs f l = l.map (renO f)
  | [] => rfl
  | o :: l => by simp [renOs, renOs_eq f l]

mutual
def plainV : SV A → Bool
  | .int _ _ => true
  | .lit _ _ => true
  | .bl _ => true
  | .sb _ _ => true
  | .val _ => true
  | .err _ _ => true
  | .undef => true
  | .agg cs => plainL cs
  | .tup cs => plainL cs
  | _ => false
def plainL : SL A → Bool
  | .nil => true
  | .cell v r => if plainV v then plainL r else false
  | .run _ _ _ r => plainL r
end

def letGos (sh : List (SO A)) : List (SV A) → Option (List (SV A) × List (SO A))
  | [] => some ([], sh)
  | v :: l => match letGoV sh v with
    | some (v', sh1) => match letGos sh1 l with
      | some (l', sh2) => some (v' :: l', sh2)
      | none => none
    | none => none

def eqva : List (SV A) → List (SV A) → Prop
  | [], [] => True
  | a :: r, b :: s => eqv a b ∧ eqva r s
  | _, _ => False

def belowVs (n : Nat) : List (SV A) → Bool
  | [] => true
  | v :: l => if belowV n v then belowVs n l else false

/-- What a caller knows of a call. -/
def tOf (L : LS A) (get : List (SV A) → Option L.X) : SpecT A := fun args sh K => match letGos sh args with
  | some (args', sh1) => match get args' with
    | some x => L.pre x ∧ (match L.hout x with
      | [] => if plainV (resV (L.res x)) then K (resV (L.res x)) sh else K (resV (L.res x)) sh1
      | l => K (ren (fun i => cnt sh1 + i) (resV (L.res x))) (joinL sh1 (renOs (fun i => cnt sh1 + i) l)))
    | none => False
  | none => False

section
variable {O O2 : Nat → Prop} {env env2 : List Wit} {w w2 : World} {C : Enc A}

mutual
theorem Rep.plain : ∀ {s : SV A} {v : Value}, plainV s = true → Rep O env w C s v → Rep O2 env2 w2 C s v
  | _, _, _, .undef => .undef
  | _, _, _, .val => .val
  | _, _, _, .int => .int
  | _, _, _, .lit => .lit
  | _, _, _, .bl => .bl
  | _, _, _, .sb => .sb
  | _, _, _, .err h => .err h
  | _, _, hp, .agg vs h => .agg vs (RepL.plain (by simp only [plainV] at hp; exact hp) h)
  | _, _, hp, .tup vs h => .tup vs (RepL.plain (by simp only [plainV] at hp; exact hp) h)
  | _, _, hp, .junk => by simp [plainV] at hp
  | _, _, hp, .ptr _ => by simp [plainV] at hp
  | _, _, hp, .aptr _ => by simp [plainV] at hp
  | _, _, hp, .asl _ => by simp [plainV] at hp
  | _, _, hp, .rptr _ _ _ _ _ _ _ _ => by simp [plainV] at hp
  | _, _, hp, .rints _ _ _ _ _ => by simp [plainV] at hp
  | _, _, hp, .rseq _ _ _ _ _ _ _ _ => by simp [plainV] at hp
  | _, _, hp, .vec _ => by simp [plainV] at hp
  | _, _, hp, .vptr _ => by simp [plainV] at hp
  | _, _, hp, .iface _ => by simp [plainV] at hp
  | _, _, hp, .fn _ _ _ _ => by simp [plainV] at hp
theorem RepL.plain : ∀ {cs : SL A} {vs : List Value}, plainL cs = true → RepL O env w C cs vs → RepL O2 env2 w2 C cs vs
  | _, _, _, .nil => .nil
  | _, _, hp, .cell h hr => .cell (Rep.plain (by simp only [plainL] at hp; exact (ite_and hp).1) h) (RepL.plain (by simp only [plainL] at hp; exact (ite_and hp).2) hr)
  | _, _, hp, .run hn hr => .run hn (RepL.plain (by simp only [plainL] at hp; exact hp) hr)
end

theorem blkAt.ren {f : Nat → Nat} {n : Nat} (hE : ∀ i, i < n → env2[f i]? = env[i]?) {i : Nat} (hi : i < n) {P : Nat → Prop} (h : blkAt env i P) : blkAt env2 (f i) P := by
  unfold blkAt at *; rw [hE i hi]; exact h
theorem refAt.ren {f : Nat → Nat} {n : Nat} (hE : ∀ i, i < n → env2[f i]? = env[i]?) {i : Nat} (hi : i < n) {off : Nat} {v : Value} (h : refAt env i off v) : refAt env2 (f i) off v := by
  unfold refAt at *; rw [hE i hi]; exact h
theorem slAt.ren {f : Nat → Nat} {n : Nat} (hE : ∀ i, i < n → env2[f i]? = env[i]?) {i : Nat} (hi : i < n) {P : Value → Prop} (h : slAt env i P) : slAt env2 (f i) P := by
  unfold slAt at *; rw [hE i hi]; exact h

mutual
/-- From one heap into another. -/
theorem Rep.ren {f : Nat → Nat} {n : Nat} (hC : ∀ t y, belowL 0 (C.enc t y) = true) (hO : ∀ b, ¬ O b → ¬ owned env b → ¬ O2 b ∧ ¬ owned env2 b) (hE : ∀ i, i < n → env2[f i]? = env[i]?) : ∀ {s : SV A} {v : Value}, belowV n s = true → Rep O env w C s v → Rep O2 env2 w C (ren f s) v
  | _, _, _, .junk => by simp only [Eng.ren]; exact .junk
  | _, _, _, .undef => by simp only [Eng.ren]; exact .undef
  | _, _, _, .val => by simp only [Eng.ren]; exact .val
  | _, _, _, .int => by simp only [Eng.ren]; exact .int
  | _, _, _, .lit => by simp only [Eng.ren]; exact .lit
  | _, _, _, .bl => by simp only [Eng.ren]; exact .bl
  | _, _, _, .sb => by simp only [Eng.ren]; exact .sb
  | _, _, _, .err h => by simp only [Eng.ren]; exact .err h
  | _, _, hb, .ptr h => by simp only [Eng.ren]; exact .ptr (h.ren hE (ite_tt (by simp only [belowV] at hb; exact hb)))
  | _, _, hb, .aptr h => by simp only [Eng.ren]; exact .aptr (h.ren hE (ite_tt (by simp only [belowV] at hb; exact hb)))
  | _, _, hb, .asl h => by simp only [Eng.ren]; exact .asl (h.ren hE (ite_tt (by simp only [belowV] at hb; exact hb)))
  | _, _, hb, .vec h => by simp only [Eng.ren]; exact .vec (h.ren hE (ite_tt (by simp only [belowV] at hb; exact hb)))
  | _, _, hb, .vptr h => by simp only [Eng.ren]; exact .vptr (h.ren hE (ite_tt (by simp only [belowV] at hb; exact hb)))
  | _, _, hb, .rptr b o vs h1 h2 hl hcl h => by simp only [Eng.ren]; exact .rptr b o vs (hO b h1 h2).1 (hO b h1 h2).2 hl hcl (RepL.ren hC hO hE (by simp only [belowV] at hb; exact hb) h)
  | _, _, _, .rints a c h1 h2 h => by simp only [Eng.ren]; exact .rints a c h1 h2 (h.far hO)
  | _, _, _, .rseq a c vs h1 h2 h3 h hx => by simp only [Eng.ren]; exact .rseq a c vs h1 h2 h3 (h.far hO) (fun j x hj => RepL.closed hC hO (hC _ _) (hx j x hj))
  | _, _, hb, .iface h => by simp only [Eng.ren]; exact .iface (Rep.ren hC hO hE (by simp only [belowV] at hb; exact hb) h)
  | _, _, hb, .fn us vs ha hb' => by simp only [Eng.ren]; exact .fn us vs (RepL.ren hC hO hE (by simp only [belowV] at hb; exact (ite_and hb).1) ha) (RepL.ren hC hO hE (by simp only [belowV] at hb; exact (ite_and hb).2) hb')
  | _, _, hb, .agg vs h => by simp only [Eng.ren]; exact .agg vs (RepL.ren hC hO hE (by simp only [belowV] at hb; exact hb) h)
  | _, _, hb, .tup vs h => by simp only [Eng.ren]; exact .tup vs (RepL.ren hC hO hE (by simp only [belowV] at hb; exact hb) h)
theorem RepL.ren {f : Nat → Nat} {n : Nat} (hC : ∀ t y, belowL 0 (C.enc t y) = true) (hO : ∀ b, ¬ O b → ¬ owned env b → ¬ O2 b ∧ ¬ owned env2 b) (hE : ∀ i, i < n → env2[f i]? = env[i]?) : ∀ {cs : SL A} {vs : List Value}, belowL n cs = true → RepL O env w C cs vs → RepL O2 env2 w C (renL f cs) vs
  | _, _, _, .nil => by simp only [Eng.renL]; exact .nil
  | _, _, hb, .cell h hr => by simp only [Eng.renL]; exact .cell (Rep.ren hC hO hE (by simp only [belowL] at hb; exact (ite_and hb).1) h) (RepL.ren hC hO hE (by simp only [belowL] at hb; exact (ite_and hb).2) hr)
  | _, _, hb, .run hn hr => by simp only [Eng.renL]; exact .run hn (RepL.ren hC hO hE (by simp only [belowL] at hb; exact hb) hr)
end
theorem ORep.ren {f : Nat → Nat} {n : Nat} (hC : ∀ t y, belowL 0 (C.enc t y) = true) (hO : ∀ b, ¬ O b → ¬ owned env b → ¬ O2 b ∧ ¬ owned env2 b) (hE : ∀ i, i < n → env2[f i]? = env[i]?) {a : SO A} {x : Wit} (hb : belowO n a = true) (h : ORep O env w C a x) : ORep O2 env2 w C (renO f a) x := by
  cases a with
  | dead => exact h
  | cells e cs =>
    cases x with
    | blk b => obtain ⟨vs, h1, h2⟩ := h; exact ⟨vs, h1, h2.ren hC hO hE hb⟩
    | dead => exact h
    | ro v => exact h
    | sl v => exact h
    | mb b => exact h
  | smap kt vt es st => cases x with
    | mb b => exact MapR.imp h rfl (fun _ _ _ h => h.closed hC hO (hC _ _))
    | dead => exact h
    | ro v => exact h
    | sl v => exact h
    | blk b => exact h
  | fr s => cases x with
    | ro v => exact Rep.ren hC hO hE hb h
    | dead => exact h
    | blk v => exact h
    | sl v => exact h
    | mb b => exact h
  | ivec e k xs => cases x <;> exact h
  | svec e xs =>
    cases x with
    | sl v => obtain ⟨vs, h1, h2⟩ := h; exact ⟨vs, h1, fun j y hj => (h2 j y hj).closed hC hO (hC _ _)⟩
    | dead => exact h
    | ro v => exact h
    | blk b => exact h
    | mb b => exact h

theorem letGos_spec : ∀ {l l' : List (SV A)} {sh sh' : List (SO A)} {env : List Wit} {vs : List Value}, HR O env w C sh → letGos sh l = some (l', sh') → ArgsR O env w C l vs →
    ∃ env', HR O env' w C sh' ∧ Step env w env' w ∧ ArgsR O env' w C l' vs
  | [], _, _, _, env, vs, hh, h, hr => by
    simp only [letGos, Option.some.injEq, Prod.mk.injEq] at h
    obtain ⟨rfl, rfl⟩ := h
    exact ⟨env, hh, Step.refl _ _, hr⟩
  | s :: l, _, sh, _, env, vs, hh, h, hr => by
    simp only [letGos] at h
    split at h
    · rename_i s' sh1 h1
      split at h
      · rename_i r' sh2 h2
        cases h
        obtain ⟨u, us, rfl, h3, h4⟩ := hr
        obtain ⟨env1, h5, h6, h7⟩ := letGoV_spec hh h1 h3
        obtain ⟨env2, h8, h9, h10⟩ := letGos_spec h5 h2 (argsR_step h6 h4)
        exact ⟨env2, h8, h6.trans h9, u, us, rfl, h7.step h9, h10⟩
      · cases h
    · cases h

theorem eqva_rep : ∀ {l m : List (SV A)} {vs : List Value}, eqva l m → ArgsR O env w C m vs → ArgsR O env w C l vs
  | [], [], _, _, h => h
  | a :: r, b :: s, _, h, ⟨u, us, e, h1, h2⟩ => ⟨u, us, e, eqv_rep h.1 h1, eqva_rep h.2 h2⟩
  | [], _ :: _, _, h, _ => by simp [eqva] at h
  | _ :: _, [], _, h, _ => by simp [eqva] at h

theorem argsR_closed (hC : ∀ t y, belowL 0 (C.enc t y) = true) (hO : ∀ b, ¬ O b → ¬ owned env b → ¬ O2 b ∧ ¬ owned env2 b) : ∀ {l : List (SV A)} {vs : List Value}, belowVs 0 l = true → ArgsR O env w C l vs → ArgsR O2 env2 w C l vs
  | [], _, _, h => h
  | a :: r, _, hb, ⟨u, us, e, h1, h2⟩ => by
    simp only [belowVs] at hb
    exact ⟨u, us, e, h1.closed hC hO (ite_and hb).1, argsR_closed hC hO (ite_and hb).2 h2⟩
end

theorem belowOs_get {n : Nat} : ∀ {l : List (SO A)}, belowOs n l = true → ∀ (i : Nat) a, l[i]? = some a → belowO n a = true
  | [], _, i, a, h => by simp at h
  | x :: l, hb, i, a, h => by
    simp only [belowOs] at hb
    obtain ⟨h1, h2⟩ := ite_and hb
    cases i with
    | zero => simp at h; subst h; exact h1
    | succ i => exact belowOs_get h2 i a (by simpa using h)

/-- A contract that needs no memory of its caller's. -/
structure Pure (L : LS A) (get : List (SV A) → Option L.X) : Prop where
  hin : ∀ x, L.hin x = []
  got : ∀ args x, get args = some x → eqva (L.args x) args
  closed : ∀ x, belowVs 0 (L.args x) = true

section
variable {E : Eng A}
theorem meets_pure (hS : Sound E) (hG : ∀ g cs, E.GL g = some cs → belowL 0 cs = true) {f : FuncId} {fn : Func} {body : Code} (hf : E.P.funcs[f]? = some fn) (hname : (fn.name == "runtime.NumGoroutine") = false) (hb : fn.body = some body) {L : LS A} {ann : L.X → Anns A} {get : List (SV A) → Option L.X}
    (hL : fnS E fn body L ann) (hp : Pure L get) (q : Bool) : Meets E.P E.C E.GL q f (tOf L get) := by
  intro args sh K hk O env w vs ha hh hg
  have hC := hS.below 0
  unfold tOf at hk
  split at hk
  case h_2 => exact hk.elim
  rename_i args' sh1 hl
  split at hk
  case h_2 => exact hk.elim
  rename_i x hx
  obtain ⟨hpre, hk⟩ := hk
  obtain ⟨env1, hh1, hs1, ha1⟩ := letGos_spec hh hl ha
  have ha2 := eqva_rep (hp.got _ _ hx) ha1
  have hO : ∀ b, ¬ O b → ¬ owned env1 b → ¬ (O b ∨ owned env1 b) ∧ ¬ owned [] b := fun b h1 h2 => ⟨fun h => h.elim h1 h2, fun ⟨i, x, h, _⟩ => by simp at h⟩
  have ha3 := argsR_closed (O2 := fun b => O b ∨ owned env1 b) (env2 := []) hC hO (hp.closed x) ha2
  have hhc : HR (fun b => O b ∨ owned env1 b) [] w E.C (L.hin x) := by
    rw [hp.hin]
    exact ⟨rfl, fun i so x h _ => by simp at h, fun i j x y b h _ _ _ => by simp at h, fun b ⟨i, x, h, _⟩ => by simp at h, fun b ⟨i, x, h, _⟩ => by simp at h, fun b h => h.elim (hh1.olt b) (hh1.lt b)⟩
  have hgc : Glob E.GL (fun b => O b ∨ owned env1 b) [] w E.C := fun g cs h => (hg.step hs1 g cs h).closed hC hO (by simp only [belowV]; exact hG g cs h)
  have hcall := fn_local hS hf hname hb hL (fun x _ => by rw [hp.hin]; simp) hpre ha3 hhc hgc
  intro o a next Q hn
  refine hcall o a next Q (fun v w' ⟨envc, hr, hhr, hst, hbv, hbo⟩ => hn v w' ?_)
  have hold : ∀ b, b < w.heap.size → w'.heap[b]? = w.heap[b]? := fun b hb => hst.cells b hb (fun ⟨i, x, h, _⟩ => by simp at h)
  have hout : ∀ b, owned envc b → ¬ O b ∧ ¬ owned env1 b := fun b h => ⟨fun h1 => hhr.out b h (.inl h1), fun h1 => hhr.out b h (.inr h1)⟩
  have hstep : ∀ env0, (∀ b, owned env0 b → b < w.heap.size) → Step env0 w (env0 ++ envc) w' := fun env0 h0 =>
    ⟨hst.os, hst.tape, hst.output, hst.size, by simp, fun i x hx => ⟨x, by rw [List.getElem?_append_left (List.getElem?_eq_some_iff.1 hx).1]; exact hx, .refl x⟩,
      fun b ⟨i, x, hx, ho⟩ => by
        rcases Nat.lt_or_ge i env0.length with hi | hi
        · rw [List.getElem?_append_left hi] at hx; exact .inl ⟨i, x, hx, ho⟩
        · rw [List.getElem?_append_right hi] at hx
          exact .inr ((hst.fresh b ⟨_, x, hx, ho⟩).elim (fun ⟨i, x, h, _⟩ => by simp at h) id),
      fun b hb _ => hold b hb⟩
  have hown : ∀ b, owned (env1 ++ envc) b → owned env1 b ∨ owned envc b := fun b ⟨i, x, hx, ho⟩ => by
    rcases Nat.lt_or_ge i env1.length with hi | hi
    · rw [List.getElem?_append_left hi] at hx; exact .inl ⟨i, x, hx, ho⟩
    · rw [List.getElem?_append_right hi] at hx; exact .inr ⟨_, x, hx, ho⟩
  have hjoin : HR O (env1 ++ envc) w' E.C (sh1 ++ (L.hout x).map (renO fun i => sh1.length + i)) := by
    have hst1 := hstep env1 hh1.lt
    refine ⟨by simp [hh1.len, hhr.len], fun i so x h1 h2 => ?_, fun i j y z b h1 h2 h3 h4 => ?_, fun b hb => ?_, fun b hb => ?_, fun b hb => Nat.lt_of_lt_of_le (hh1.olt b hb) hst.size⟩
    · rcases Nat.lt_or_ge i env1.length with hi | hi
      · rw [List.getElem?_append_left (by rw [hh1.len]; exact hi)] at h1
        rw [List.getElem?_append_left hi] at h2
        exact (hh1.rep i so x h1 h2).step hst1 (fun b hb => hold b (hh1.lt b ⟨i, x, h2, hb⟩))
      · rw [List.getElem?_append_right (by rw [hh1.len]; exact hi)] at h1
        rw [List.getElem?_append_right hi] at h2
        rw [hh1.len, List.getElem?_map] at h1
        cases ho : (L.hout _)[i - env1.length]? with
        | none => rw [ho] at h1; simp at h1
        | some so' =>
          rw [ho] at h1
          simp only [Option.map_some, Option.some.injEq] at h1
          subst h1
          have h3 := hhr.rep _ so' x ho h2
          refine h3.ren (n := (L.hout _).length) hC (fun b h4 h5 => ⟨fun h6 => h4 (.inl h6), fun h6 => (hown b h6).elim (fun h7 => h4 (.inr h7)) h5⟩) (fun j hj => ?_) (belowOs_get hbo _ _ ho)
          rw [List.getElem?_append_right (by omega)]
          congr 1; omega
    · have key : ∀ (i : Nat) y, (env1 ++ envc)[i]? = some y → y.owns b → (i < env1.length ∧ env1[i]? = some y) ∨ (env1.length ≤ i ∧ envc[i - env1.length]? = some y) := by
        intro i y h _
        rcases Nat.lt_or_ge i env1.length with hi | hi
        · rw [List.getElem?_append_left hi] at h; exact .inl ⟨hi, h⟩
        · rw [List.getElem?_append_right hi] at h; exact .inr ⟨hi, h⟩
      rcases key i y h1 h3 with ⟨h5, h6⟩ | ⟨h5, h6⟩ <;> rcases key j z h2 h4 with ⟨h7, h8⟩ | ⟨h7, h8⟩
      · exact hh1.disj i j y z b h6 h8 h3 h4
      · exact ((hout b ⟨_, z, h8, h4⟩).2 ⟨i, y, h6, h3⟩).elim
      · exact ((hout b ⟨_, y, h6, h3⟩).2 ⟨j, z, h8, h4⟩).elim
      · have := hhr.disj _ _ y z b h6 h8 h3 h4; omega
    · rcases hown b hb with h | h
      · exact hh1.out b h
      · exact (hout b h).1
    · rcases hown b hb with h | h
      · exact Nat.lt_of_lt_of_le (hh1.lt b h) hst.size
      · exact hhr.lt b h
  have hrep : Rep O (env1 ++ envc) w' E.C (ren (fun i => sh1.length + i) (resV (L.res x))) v := by
    refine hr.ren (n := (L.hout x).length) hC (fun b h4 h5 => ⟨fun h6 => h4 (.inl h6), fun h6 => (hown b h6).elim (fun h7 => h4 (.inr h7)) h5⟩) (fun j hj => ?_) hbv
    show (env1 ++ envc)[sh1.length + j]? = _
    rw [hh1.len, List.getElem?_append_right (by omega)]
    congr 1; omega
  split at hk
  · rename_i hnil
    have henvc : envc = [] := by
      have := hhr.len
      rw [hnil] at this
      exact List.eq_nil_of_length_eq_zero this.symm
    subst henvc
    split at hk
    · rename_i hpl
      have hs0 : Step env w env w' := by simpa using hstep env hh.lt
      refine ⟨_, sh, env, Rep.plain hpl hr, ⟨hh.len, fun i so y h1 h2 => (hh.rep i so y h1 h2).step hs0 (fun b hb => hold b (hh.lt b ⟨i, y, h2, hb⟩)), hh.disj, hh.out, fun b hb => Nat.lt_of_lt_of_le (hh.lt b hb) hst.size, fun b hb => Nat.lt_of_lt_of_le (hh.olt b hb) hst.size⟩, hs0, fun _ => ⟨hst.size, hold⟩, hk⟩
    · simp only [List.append_nil, hnil, List.map_nil] at hjoin
      have hs2 : Step env w env1 w' := hs1.trans (by simpa using hstep env1 hh1.lt)
      refine ⟨_, sh1, env1, Rep.closed hC (fun b h1 h2 => ⟨fun h => h1 (.inl h), fun h => h1 (.inr h)⟩) (by rw [hnil] at hbv; exact hbv) hr, hjoin, hs2, fun _ => ⟨hst.size, hold⟩, hk⟩
  · rw [cnt_eq, joinL_eq, renOs_eq] at hk
    exact ⟨_, _, _, hrep, hjoin, hs1.trans (hstep env1 hh1.lt), fun _ => ⟨hst.size, hold⟩, hk⟩
end

/-- A contract with two ends. -/
structure LS2 (A : Nat → Type) where
  X : Type
  c : X → Bool
  args : X → List (SV A)
  yes : X → List (SV A)
  no : X → List (SV A)
def LS2.one (L : LS2 A) (b : Bool) : LS A where
  X := L.X
  pre := fun x => L.c x = b
  args := L.args
  hin := fun _ => []
  res := fun x => match b with
    | true => L.yes x
    | false => L.no x
  hout := fun _ => []
def tIf (L : LS2 A) (get : List (SV A) → Option L.X) : SpecT A := fun args sh K => match letGos sh args with
  | some (args', sh1) => match get args' with
    | some x => (L.c x = true → if plainV (resV (L.yes x)) then K (resV (L.yes x)) sh else K (resV (L.yes x)) sh1) ∧
      (L.c x = false → if plainV (resV (L.no x)) then K (resV (L.no x)) sh else K (resV (L.no x)) sh1)
    | none => False
  | none => False
theorem meets_if {P : Program} {C : Enc A} {GL : Nat → Option (SL A)} {q : Bool} {f : FuncId} {L : LS2 A} {get : List (SV A) → Option L.X}
    (h1 : Meets P C GL q f (tOf (L.one true) get)) (h2 : Meets P C GL q f (tOf (L.one false) get)) : Meets P C GL q f (tIf L get) := by
  intro args sh K hk
  unfold tIf at hk
  split at hk
  case h_2 => exact hk.elim
  rename_i args' sh1 hl
  split at hk
  case h_2 => exact hk.elim
  rename_i x hx
  cases hc : L.c x with
  | true =>
    refine h1 args sh K ?_
    unfold tOf
    rw [hl]
    simp only
    have hx' : get args' = some x := hx
    rw [show (get args' : Option (L.one true).X) = some x from hx']
    exact ⟨hc, hk.1 hc⟩
  | false =>
    refine h2 args sh K ?_
    unfold tOf
    rw [hl]
    simp only
    have hx' : get args' = some x := hx
    rw [show (get args' : Option (L.one false).X) = some x from hx']
    exact ⟨hc, hk.2 hc⟩
end Go.Eng

/-! The engine is right: a function that is lent memory, called from anywhere; a function that is walked where it is called. Conditions: none. -/
namespace Go.Eng
open Go
variable {A : Nat → Type}

mutual
/-- Does it speak of nothing that is read alone? -/
def ownV : SV A → Bool
  | .rptr _ _ => false
  | .rints _ _ => false
  | .rseq _ _ => false
  | .iface _ v => ownV v
  | .fn _ a b => if ownL a then ownL b else false
  | .agg cs => ownL cs
  | .tup cs => ownL cs
  | _ => true
def ownL : SL A → Bool
  | .nil => true
  | .cell v r => if ownV v then ownL r else false
  | .run _ _ _ r => ownL r
end
def ownO : SO A → Bool
  | .dead => true
  | .cells _ cs => ownL cs
  | .ivec _ _ _ => true
  | _ => false
def ownOs : List (SO A) → Bool
  | [] => true
  | o :: l => if ownO o then ownOs l else false

/-- Where a callee's entry lies with its caller. -/
def place (σ : List (SV A)) (N k : Nat) : Nat := match nth σ k with
  | some s => match srcOf s with
    | some j => j
    | none => N + k
  | none => N + k
def layB {α : Type _} : List α → List (SV A) → List α → List α
  | xs, [], _ => xs
  | xs, _ :: _, [] => xs
  | xs, s :: σ, y :: l => match srcOf s with
    | some j => layB (setNth xs j y) σ l
    | none => layB xs σ l
def apd {α : Type _} (d : α) : List (SV A) → List α → List α
  | [], l => l
  | _ :: _, [] => []
  | s :: σ, y :: l => (match srcOf s with
    | some _ => d
    | none => y) :: apd d σ l

/-- What a caller knows of a call to which it lends memory. -/
def tLent (L : LS A) (get : List (SV A) → List (SO A) → Option L.X) : SpecT A := fun args sh K => match get args sh with
  | none => False
  | some x => match endS sh (L.args x) args with
    | none => False
    | some (args', sh1) => match srcs (closeM 0 sh1 (L.hin x) (closeM 0 sh1 (L.hin x) (findSlots 0 args' sh1 (slotsFrom 0 (L.args x))))) 0 (cnt (L.hin x)) with
      | none => False
      | some σ => if okOs 0 σ (L.hin x) then (if okSlots 0 σ (slotsFrom 0 (L.args x)) then (if distinct [] σ [] then
          slotsAre 0 σ args' sh1 (slotsFrom 0 (L.args x)) ∧ moreIs 0 σ sh1 (L.hin x) σ ∧ L.pre x ∧
          K (ren (place σ (cnt sh)) (resV (L.res x)))
            (joinL (layB (if ownV (resV (L.res x)) then (if ownOs (L.hout x) then sh else sh1) else sh1) σ (renOs (place σ (cnt sh)) (L.hout x))) (apd .dead σ (renOs (place σ (cnt sh)) (L.hout x))))
        else False) else False) else False

section
variable {O O2 : Nat → Prop} {env env2 : List Wit} {w w2 : World} {C : Enc A}
mutual
/-- From one heap into another; what speaks of nothing that is read alone, into any. -/
theorem Rep.ren2 {f : Nat → Nat} {n : Nat} (hC : ∀ t y, belowL 0 (C.enc t y) = true) (hE : ∀ i, i < n → env2[f i]? = env[i]?) : ∀ {s : SV A} {v : Value}, ((∀ b, ¬ O b → ¬ owned env b → ¬ O2 b ∧ ¬ owned env2 b) ∨ ownV s = true) → belowV n s = true → Rep O env w C s v → Rep O2 env2 w C (ren f s) v
  | _, _, _, _, .junk => by simp only [Eng.ren]; exact .junk
  | _, _, _, _, .undef => by simp only [Eng.ren]; exact .undef
  | _, _, _, _, .val => by simp only [Eng.ren]; exact .val
  | _, _, _, _, .int => by simp only [Eng.ren]; exact .int
  | _, _, _, _, .lit => by simp only [Eng.ren]; exact .lit
  | _, _, _, _, .bl => by simp only [Eng.ren]; exact .bl
  | _, _, _, _, .sb => by simp only [Eng.ren]; exact .sb
  | _, _, _, _, .err h => by simp only [Eng.ren]; exact .err h
  | _, _, _, hb, .ptr h => by simp only [Eng.ren]; exact .ptr (h.ren hE (ite_tt (by simp only [belowV] at hb; exact hb)))
  | _, _, _, hb, .aptr h => by simp only [Eng.ren]; exact .aptr (h.ren hE (ite_tt (by simp only [belowV] at hb; exact hb)))
  | _, _, _, hb, .asl h => by simp only [Eng.ren]; exact .asl (h.ren hE (ite_tt (by simp only [belowV] at hb; exact hb)))
  | _, _, _, hb, .vec h => by simp only [Eng.ren]; exact .vec (h.ren hE (ite_tt (by simp only [belowV] at hb; exact hb)))
  | _, _, _, hb, .vptr h => by simp only [Eng.ren]; exact .vptr (h.ren hE (ite_tt (by simp only [belowV] at hb; exact hb)))
  | _, _, hO, hb, .rptr b o vs h1 h2 hl hcl h => by
    simp only [Eng.ren]
    rcases hO with hO | hO
    · exact .rptr b o vs (hO b h1 h2).1 (hO b h1 h2).2 hl hcl (RepL.ren2 hC hE (.inl hO) (by simp only [belowV] at hb; exact hb) h)
    · simp [ownV] at hO
  | _, _, hO, _, .rints a c h1 h2 h => by
    simp only [Eng.ren]
    rcases hO with hO | hO
    · exact .rints a c h1 h2 (h.far hO)
    · simp [ownV] at hO
  | _, _, hO, _, .rseq a c vs h1 h2 h3 h hx => by
    simp only [Eng.ren]
    rcases hO with hO | hO
    · exact .rseq a c vs h1 h2 h3 (h.far hO) (fun j x hj => RepL.closed hC hO (hC _ _) (hx j x hj))
    · simp [ownV] at hO
  | _, _, hO, hb, .iface h => by simp only [Eng.ren]; exact .iface (Rep.ren2 hC hE (hO.imp id (fun h => by simpa only [ownV] using h)) (by simp only [belowV] at hb; exact hb) h)
  | _, _, hO, hb, .fn us vs ha hb' => by simp only [Eng.ren]; exact .fn us vs (RepL.ren2 hC hE (hO.imp id (fun h => by simp only [ownV] at h; exact (ite_and h).1)) (by simp only [belowV] at hb; exact (ite_and hb).1) ha) (RepL.ren2 hC hE (hO.imp id (fun h => by simp only [ownV] at h; exact (ite_and h).2)) (by simp only [belowV] at hb; exact (ite_and hb).2) hb')
  | _, _, hO, hb, .agg vs h => by simp only [Eng.ren]; exact .agg vs (RepL.ren2 hC hE (hO.imp id (fun h => by simpa only [ownV] using h)) (by simp only [belowV] at hb; exact hb) h)
  | _, _, hO, hb, .tup vs h => by simp only [Eng.ren]; exact .tup vs (RepL.ren2 hC hE (hO.imp id (fun h => by simpa only [ownV] using h)) (by simp only [belowV] at hb; exact hb) h)
theorem RepL.ren2 {f : Nat → Nat} {n : Nat} (hC : ∀ t y, belowL 0 (C.enc t y) = true) (hE : ∀ i, i < n → env2[f i]? = env[i]?) : ∀ {cs : SL A} {vs : List Value}, ((∀ b, ¬ O b → ¬ owned env b → ¬ O2 b ∧ ¬ owned env2 b) ∨ ownL cs = true) → belowL n cs = true → RepL O env w C cs vs → RepL O2 env2 w C (renL f cs) vs
  | _, _, _, _, .nil => by simp only [Eng.renL]; exact .nil
  | _, _, hO, hb, .cell h hr => by simp only [Eng.renL]; exact .cell (Rep.ren2 hC hE (hO.imp id (fun h => by simp only [ownL] at h; exact (ite_and h).1)) (by simp only [belowL] at hb; exact (ite_and hb).1) h) (RepL.ren2 hC hE (hO.imp id (fun h => by simp only [ownL] at h; exact (ite_and h).2)) (by simp only [belowL] at hb; exact (ite_and hb).2) hr)
  | _, _, hO, hb, .run hn hr => by simp only [Eng.renL]; exact .run hn (RepL.ren2 hC hE (hO.imp id (fun h => by simpa only [ownL] using h)) (by simp only [belowL] at hb; exact hb) hr)
end
theorem ORep.ren2 {f : Nat → Nat} {n : Nat} (hC : ∀ t y, belowL 0 (C.enc t y) = true) (hE : ∀ i, i < n → env2[f i]? = env[i]?) {a : SO A} {x : Wit} (hO : (∀ b, ¬ O b → ¬ owned env b → ¬ O2 b ∧ ¬ owned env2 b) ∨ ownO a = true) (hb : belowO n a = true) (h : ORep O env w C a x) : ORep O2 env2 w C (renO f a) x := by
  cases a with
  | dead => exact h
  | cells e cs =>
    cases x with
    | blk b => obtain ⟨vs, h1, h2⟩ := h; exact ⟨vs, h1, h2.ren2 hC hE hO hb⟩
    | dead => exact h
    | ro v => exact h
    | sl v => exact h
    | mb b => exact h
  | smap kt vt es st => cases x with
    | mb b =>
      rcases hO with hO | hO
      · exact MapR.imp h rfl (fun _ _ _ h => h.closed hC hO (hC _ _))
      · cases hO
    | dead => exact h
    | ro v => exact h
    | sl v => exact h
    | blk b => exact h
  | fr s => cases x with
    | ro v =>
      rcases hO with hO | hO
      · exact Rep.ren2 hC hE (.inl hO) hb h
      · cases hO
    | dead => exact h
    | blk v => exact h
    | sl v => exact h
    | mb b => exact h
  | ivec e k xs => cases x <;> exact h
  | svec e xs =>
    cases x with
    | sl v =>
      rcases hO with hO | hO
      · obtain ⟨vs, h1, h2⟩ := h; exact ⟨vs, h1, fun j y hj => (h2 j y hj).closed hC hO (hC _ _)⟩
      · cases hO
    | dead => exact h
    | ro v => exact h
    | blk b => exact h
    | mb b => exact h
end

theorem ownOs_get : ∀ {l : List (SO A)}, ownOs l = true → ∀ (i : Nat) a, l[i]? = some a → ownO a = true
  | [], _, i, a, h => by simp at h
  | x :: l, hb, i, a, h => by
    simp only [ownOs] at hb
    obtain ⟨h1, h2⟩ := ite_and hb
    cases i with
    | zero => simp at h; subst h; exact h1
    | succ i => exact ownOs_get h2 i a (by simpa using h)

section
variable {α : Type _}
theorem layB_len : ∀ {σ : List (SV A)} {xs l : List α}, (layB xs σ l).length = xs.length
  | [], xs, l => by simp [layB]
  | _ :: _, xs, [] => by simp [layB]
  | s :: σ, xs, y :: l => by
    simp only [layB]
    split
    · rw [layB_len, setNth_eq, List.length_set]
    · exact layB_len
theorem apd_len {d : α} : ∀ {σ : List (SV A)} {l : List α}, (apd d σ l).length = l.length
  | [], l => rfl
  | _ :: _, [] => rfl
  | s :: σ, y :: l => by simp [apd, apd_len]
theorem layB_out {i : Nat} : ∀ {σ : List (SV A)} {xs l : List α}, (∀ (k : Nat) s, σ[k]? = some s → srcOf s ≠ some i) → (layB xs σ l)[i]? = xs[i]?
  | [], xs, l, _ => by simp [layB]
  | _ :: _, xs, [], _ => by simp [layB]
  | s :: σ, xs, y :: l, h => by
    have h1 := h 0 s rfl
    have h2 : ∀ (k : Nat) s, σ[k]? = some s → srcOf s ≠ some i := fun k s hk => h (k + 1) s (by simpa using hk)
    simp only [layB]
    split
    · rename_i j hj
      rw [layB_out h2, setNth_eq, List.getElem?_set_ne (fun e => h1 (by rw [hj, e]))]
    · exact layB_out h2
theorem layB_in {j : Nat} {y : α} : ∀ {σ : List (SV A)} {xs l : List α} {k : Nat} {s : SV A}, (∀ (k k' : Nat) s s' j, σ[k]? = some s → σ[k']? = some s' → srcOf s = some j → srcOf s' = some j → k = k') →
    σ[k]? = some s → srcOf s = some j → l[k]? = some y → j < xs.length → (layB xs σ l)[j]? = some y
  | [], xs, l, k, s, _, h, _, _, _ => by simp at h
  | _ :: _, xs, [], k, s, _, _, _, h, _ => by simp at h
  | s0 :: σ, xs, z :: l, k, s, hd, hk, hs, hl, hj => by
    have hd' : ∀ (k k' : Nat) s s' j, σ[k]? = some s → σ[k']? = some s' → srcOf s = some j → srcOf s' = some j → k = k' := fun k k' s s' j h1 h2 h3 h4 => by
      have := hd (k + 1) (k' + 1) s s' j (by simpa using h1) (by simpa using h2) h3 h4
      omega
    cases k with
    | zero =>
      simp at hk hl
      subst hk; subst hl
      have hout : ∀ (k : Nat) s, σ[k]? = some s → srcOf s ≠ some j := fun k s hk e => by
        have := hd 0 (k + 1) s0 s j rfl (by simpa using hk) hs e
        omega
      simp only [layB, hs]
      rw [layB_out hout, setNth_eq, List.getElem?_set_self hj]
    | succ k =>
      simp only [layB]
      split
      · exact layB_in hd' (by simpa using hk) hs (by simpa using hl) (by rw [setNth_eq, List.length_set]; exact hj)
      · exact layB_in hd' (by simpa using hk) hs (by simpa using hl) hj
theorem apd_get {d : α} : ∀ {σ : List (SV A)} {l : List α} {k : Nat} {y : α}, l[k]? = some y → (apd d σ l)[k]? = some (match σ[k]? with
    | some s => match srcOf s with
      | some _ => d
      | none => y
    | none => y)
  | [], l, k, y, h => by simpa [apd] using h
  | _ :: _, [], k, y, h => by simp at h
  | s :: σ, z :: l, 0, y, h => by simp at h; subst h; simp [apd]
  | s :: σ, z :: l, k + 1, y, h => by simp [apd, apd_get (σ := σ) (l := l) (k := k) (y := y) (d := d) (by simpa using h)]

/-- An entry, at its place. -/
theorem lay_at {d y : α} {σ : List (SV A)} {xs l : List α} {k N : Nat} (hN : xs.length = N) (hd : ∀ (k k' : Nat) s s' j, σ[k]? = some s → σ[k']? = some s' → srcOf s = some j → srcOf s' = some j → k = k')
    (hlt : ∀ (k : Nat) s j, σ[k]? = some s → srcOf s = some j → j < N) (h : l[k]? = some y) : (layB xs σ l ++ apd d σ l)[place σ N k]? = some y := by
  have hl : (layB xs σ l).length = N := by rw [layB_len, hN]
  have hap := apd_get (d := d) (σ := σ) h
  have hnew : (layB xs σ l ++ apd d σ l)[N + k]? = (apd d σ l)[k]? := by
    rw [List.getElem?_append_right (by rw [hl]; omega), hl]; congr 1; omega
  unfold place
  rw [nth_eq]
  cases hs : σ[k]? with
  | none => simp only; rw [hnew, hap, hs]
  | some s =>
    simp only
    cases hj : srcOf s with
    | none => simp only; rw [hnew, hap, hs]; simp only [hj]
    | some j =>
      simp only
      have h1 := hlt k s j hs hj
      rw [List.getElem?_append_left (by rw [hl]; exact h1)]
      exact layB_in hd hs hj h (by rw [hN]; exact h1)
theorem lay_dead {d y : α} {σ : List (SV A)} {xs l : List α} {k N j : Nat} {s : SV A} (hN : xs.length = N) (h : l[k]? = some y) (hs : σ[k]? = some s) (hj : srcOf s = some j) : (layB xs σ l ++ apd d σ l)[N + k]? = some d := by
  have hl : (layB xs σ l).length = N := by rw [layB_len, hN]
  have hap := apd_get (d := d) (σ := σ) h
  rw [List.getElem?_append_right (by rw [hl]; omega), hl, show N + k - N = k from by omega, hap, hs]
  simp only [hj]
theorem lay_out {d : α} {σ : List (SV A)} {xs l : List α} {i N : Nat} (hN : xs.length = N) (hi : i < N) (h : ∀ (k : Nat) s, σ[k]? = some s → srcOf s ≠ some i) : (layB xs σ l ++ apd d σ l)[i]? = xs[i]? := by
  have hl : (layB xs σ l).length = N := by rw [layB_len, hN]
  rw [List.getElem?_append_left (by rw [hl]; exact hi), layB_out h]
/-- Which entries there are. -/
theorem lay_cases {d y : α} {σ : List (SV A)} {xs l : List α} {i N : Nat} (hN : xs.length = N) (hd : ∀ (k k' : Nat) s s' j, σ[k]? = some s → σ[k']? = some s' → srcOf s = some j → srcOf s' = some j → k = k')
    (hlt : ∀ (k : Nat) s j, σ[k]? = some s → srcOf s = some j → j < N) (hle : σ.length ≤ l.length) (h : (layB xs σ l ++ apd d σ l)[i]? = some y) :
    (i < N ∧ (∀ (k : Nat) s, σ[k]? = some s → srcOf s ≠ some i) ∧ xs[i]? = some y) ∨ (∃ k, k < l.length ∧ i = place σ N k ∧ l[k]? = some y) ∨ (y = d ∧ ∃ k s j, k < l.length ∧ i = N + k ∧ σ[k]? = some s ∧ srcOf s = some j) := by
  have hl : (layB xs σ l).length = N := by rw [layB_len, hN]
  rcases Nat.lt_or_ge i N with hi | hi
  · by_cases hex : ∃ (k : Nat) (s : SV A), σ[k]? = some s ∧ srcOf s = some i
    · obtain ⟨k, s, hs, hj⟩ := hex
      have hk : k < l.length := by have := (List.getElem?_eq_some_iff.1 hs).1; omega
      have hy := lay_at (d := d) (xs := xs) hN hd hlt (List.getElem?_eq_getElem hk)
      have hp : place σ N k = i := by unfold place; rw [nth_eq, hs]; simp only [hj]
      rw [hp, h] at hy
      exact .inr (.inl ⟨k, hk, hp.symm, by rw [List.getElem?_eq_getElem hk]; exact hy.symm⟩)
    · have hout : ∀ (k : Nat) s, σ[k]? = some s → srcOf s ≠ some i := fun k s h1 h2 => hex ⟨k, s, h1, h2⟩
      rw [lay_out hN hi hout] at h
      exact .inl ⟨hi, hout, h⟩
  · rw [List.getElem?_append_right (by rw [hl]; exact hi), hl] at h
    have hk : i - N < l.length := by
      have := (List.getElem?_eq_some_iff.1 h).1
      rwa [apd_len] at this
    have hap := apd_get (d := d) (σ := σ) (List.getElem?_eq_getElem hk)
    rw [h] at hap
    cases hs : σ[i - N]? with
    | none =>
      rw [hs] at hap
      simp only [Option.some.injEq] at hap
      refine .inr (.inl ⟨i - N, hk, ?_, by rw [List.getElem?_eq_getElem hk, hap]⟩)
      unfold place; rw [nth_eq, hs]; simp only; omega
    | some s =>
      rw [hs] at hap
      simp only at hap
      cases hj : srcOf s with
      | none =>
        rw [hj] at hap
        simp only [Option.some.injEq] at hap
        refine .inr (.inl ⟨i - N, hk, ?_, by rw [List.getElem?_eq_getElem hk, hap]⟩)
        unfold place; rw [nth_eq, hs]; simp only [hj]; omega
      | some j =>
        rw [hj] at hap
        simp only [Option.some.injEq] at hap
        exact .inr (.inr ⟨hap, i - N, s, j, hk, by omega, hs, hj⟩)
theorem place_inj {σ : List (SV A)} {N k k' : Nat} (hd : ∀ (k k' : Nat) s s' j, σ[k]? = some s → σ[k']? = some s' → srcOf s = some j → srcOf s' = some j → k = k')
    (hlt : ∀ (k : Nat) s j, σ[k]? = some s → srcOf s = some j → j < N) (h : place σ N k = place σ N k') : k = k' := by
  have key : ∀ k, (∃ s j, σ[k]? = some s ∧ srcOf s = some j ∧ place σ N k = j ∧ j < N) ∨ place σ N k = N + k := by
    intro k
    unfold place
    rw [nth_eq]
    cases hs : σ[k]? with
    | none => exact .inr rfl
    | some s =>
      cases hj : srcOf s with
      | none => exact .inr (by simp only [hj])
      | some j => exact .inl ⟨s, j, rfl, hj, by simp only [hj], hlt k s j hs hj⟩
  rcases key k with ⟨s, j, h1, h2, h3, h4⟩ | h1 <;> rcases key k' with ⟨s', j', h5, h6, h7, h8⟩ | h5
  · have : j = j' := by omega
    subst this
    exact hd k k' s s' j h1 h5 h2 h6
  · omega
  · omega
  · omega
end

section
variable {O O' : Nat → Prop} {envB envc0 envc : List Wit} {w w' : World} {C : Enc A}
/-- What a callee leaves, with its caller. -/
theorem put_back {shB hout : List (SO A)} {σ : List (SV A)} {res : SV A} {v : Value} (hC : ∀ t y, belowL 0 (C.enc t y) = true) (hh : HR O envB w C shB)
    (hd : ∀ (k k' : Nat) s s' j, σ[k]? = some s → σ[k']? = some s' → srcOf s = some j → srcOf s' = some j → k = k')
    (h0 : ∀ (k : Nat) s j, σ[k]? = some s → srcOf s = some j → ∃ x, envB[j]? = some x ∧ envc0[k]? = some x)
    (h0' : ∀ (k : Nat) x b, envc0[k]? = some x → x.owns b → ∃ s j, σ[k]? = some s ∧ srcOf s = some j) (hl0 : envc0.length = σ.length)
    (hOO : ∀ b, O b → O' b) (hhc : HR O' envc w' C hout) (hst : Step envc0 w envc w') (hbv : belowV hout.length res = true) (hbo : belowOs hout.length hout = true) (hr : Rep O' envc w' C res v)
    (hT : (∀ b, ¬ O' b → ¬ owned envc b → ¬ O b ∧ ∀ (i : Nat) x, envB[i]? = some x → x.owns b → ∃ (k : Nat) (s : SV A), σ[k]? = some s ∧ srcOf s = some i) ∨ (ownV res = true ∧ ownOs hout = true)) :
    HR O (layB envB σ envc ++ apd .dead σ envc) w' C (layB shB σ (hout.map (renO (place σ shB.length))) ++ apd .dead σ (hout.map (renO (place σ shB.length)))) ∧
      Step envB w (layB envB σ envc ++ apd .dead σ envc) w' ∧ Rep O (layB envB σ envc ++ apd .dead σ envc) w' C (ren (place σ shB.length) res) v := by
  have hN : envB.length = shB.length := hh.len.symm
  have hlt : ∀ (k : Nat) s j, σ[k]? = some s → srcOf s = some j → j < shB.length := fun k s j h1 h2 => by
    obtain ⟨x, h3, _⟩ := h0 k s j h1 h2
    have := (List.getElem?_eq_some_iff.1 h3).1
    omega
  have hle : σ.length ≤ envc.length := by rw [← hl0]; exact hst.elen
  have hcl : hout.length = envc.length := hhc.len
  have hcases := fun (i : Nat) (y : Wit) (h : (layB envB σ envc ++ apd .dead σ envc)[i]? = some y) => lay_cases hN hd hlt hle h
  -- who owns what
  have hown0 : ∀ b, owned envc0 b → ∃ (i : Nat) (k : Nat) (s : SV A) (x : Wit), σ[k]? = some s ∧ srcOf s = some i ∧ envB[i]? = some x ∧ x.owns b := fun b ⟨k, x, hx, ho⟩ => by
    obtain ⟨s, j, hs, hj⟩ := h0' k x b hx ho
    obtain ⟨y, h1, h2⟩ := h0 k s j hs hj
    rw [hx] at h2; cases h2
    exact ⟨j, k, s, x, hs, hj, h1, ho⟩
  have hunl : ∀ (i : Nat) x b, (∀ (k : Nat) s, σ[k]? = some s → srcOf s ≠ some i) → envB[i]? = some x → x.owns b → ¬ owned envc0 b := fun i x b hu hx ho hc => by
    obtain ⟨i', k, s, y, h1, h2, h3, h4⟩ := hown0 b hc
    have := hh.disj i i' x y b hx h3 ho h4
    subst this
    exact hu k s h1 h2
  have hunc : ∀ (i : Nat) x b, (∀ (k : Nat) s, σ[k]? = some s → srcOf s ≠ some i) → envB[i]? = some x → x.owns b → ¬ owned envc b := fun i x b hu hx ho hc => by
    rcases hst.fresh b hc with h1 | h1
    · exact hunl i x b hu hx ho h1
    · have := hh.lt b ⟨i, x, hx, ho⟩; omega
  have hown : ∀ b, owned (layB envB σ envc ++ apd .dead σ envc) b → (∃ (i : Nat) (x : Wit), (∀ (k : Nat) s, σ[k]? = some s → srcOf s ≠ some i) ∧ envB[i]? = some x ∧ x.owns b) ∨ owned envc b := fun b ⟨i, x, hx, ho⟩ => by
    rcases hcases i x hx with ⟨_, h1, h2⟩ | ⟨k, _, _, h2⟩ | ⟨h1, _⟩
    · exact .inl ⟨i, x, h1, h2, ho⟩
    · exact .inr ⟨k, x, h2, ho⟩
    · rw [h1] at ho; exact ho.elim
  have hEE : ∀ k, k < hout.length → (layB envB σ envc ++ apd .dead σ envc)[place σ shB.length k]? = envc[k]? := fun k hk => by
    rw [lay_at hN hd hlt (List.getElem?_eq_getElem (by omega))]; exact (List.getElem?_eq_getElem (by omega)).symm
  have hTT : (∀ b, ¬ O' b → ¬ owned envc b → ¬ O b ∧ ¬ owned (layB envB σ envc ++ apd .dead σ envc) b) ∨ (ownV res = true ∧ ownOs hout = true) := hT.imp (fun h b h1 h2 => ⟨(h b h1 h2).1, fun h3 => by
    rcases hown b h3 with ⟨i, x, hu, h4, h5⟩ | h4
    · obtain ⟨k, s, h6, h7⟩ := (h b h1 h2).2 i x h4 h5
      exact hu k s h6 h7
    · exact h2 h4⟩) id
  have hstep : Step envB w (layB envB σ envc ++ apd .dead σ envc) w' := by
    refine ⟨hst.os, hst.tape, hst.output, hst.size, by rw [List.length_append, layB_len]; omega, fun i x hx => ?_, fun b hb => ?_, fun b hb hn => hst.cells b hb (fun hc => ?_)⟩
    · by_cases hex : ∃ (k : Nat) (s : SV A), σ[k]? = some s ∧ srcOf s = some i
      · obtain ⟨k, s, hs, hj⟩ := hex
        obtain ⟨y, h1, h2⟩ := h0 k s i hs hj
        rw [hx] at h1; cases h1
        obtain ⟨z, h3, h4⟩ := hst.keep k x h2
        refine ⟨z, ?_, h4⟩
        have := lay_at (d := Wit.dead) hN hd hlt h3
        have hp : place σ shB.length k = i := by unfold place; rw [nth_eq, hs]; simp only [hj]
        rwa [hp] at this
      · refine ⟨x, ?_, .refl x⟩
        rw [lay_out hN (by have := (List.getElem?_eq_some_iff.1 hx).1; omega) (fun k s h1 h2 => hex ⟨k, s, h1, h2⟩)]; exact hx
    · rcases hown b hb with ⟨i, x, _, h1, h2⟩ | h1
      · exact .inl ⟨i, x, h1, h2⟩
      · rcases hst.fresh b h1 with h2 | h2
        · obtain ⟨i, _, _, x, _, _, h3, h4⟩ := hown0 b h2
          exact .inl ⟨i, x, h3, h4⟩
        · exact .inr h2
    · obtain ⟨i, _, _, x, _, _, h3, h4⟩ := hown0 b hc
      exact hn ⟨i, x, h3, h4⟩
  refine ⟨⟨?_, fun i so x h1 h2 => ?_, fun i j x y b h1 h2 hx hy => ?_, fun b hb => ?_, fun b hb => ?_, fun b hb => Nat.lt_of_lt_of_le (hh.olt b hb) hst.size⟩, hstep, ?_⟩
  · simp [layB_len, apd_len, hh.len, hcl]
  · rcases hcases i x h2 with ⟨hi, hu, h3⟩ | ⟨k, hk, rfl, h3⟩ | ⟨rfl, k, s, j, hk, rfl, hs, hj⟩
    · rw [lay_out rfl hi hu] at h1
      exact (hh.rep i so x h1 h3).step hstep (fun b hb => hst.cells b (hh.lt b ⟨i, x, h3, hb⟩) (hunl i x b hu h3 hb))
    · have hk' : k < hout.length := by omega
      have h4 : (hout.map (renO (place σ shB.length)))[k]? = some (renO (place σ shB.length) hout[k]) := by rw [List.getElem?_map, List.getElem?_eq_getElem hk']; rfl
      rw [lay_at rfl hd hlt h4] at h1
      cases h1
      refine (hhc.rep k _ x (List.getElem?_eq_getElem hk') h3).ren2 hC hEE (hTT.imp id fun h => ownOs_get h.2 k _ (List.getElem?_eq_getElem hk')) (belowOs_get hbo k _ (List.getElem?_eq_getElem hk'))
    · have hk' : k < hout.length := by omega
      have h4 : (hout.map (renO (place σ shB.length)))[k]? = some (renO (place σ shB.length) hout[k]) := by rw [List.getElem?_map, List.getElem?_eq_getElem hk']; rfl
      rw [lay_dead rfl h4 hs hj] at h1
      cases h1
      exact rfl
  · rcases hcases i x h1 with ⟨_, hu, h3⟩ | ⟨k, _, rfl, h3⟩ | ⟨rfl, _⟩
    · rcases hcases j y h2 with ⟨_, hu', h4⟩ | ⟨k', _, rfl, h4⟩ | ⟨rfl, _⟩
      · exact hh.disj i j x y b h3 h4 hx hy
      · exact (hunc i x b hu h3 hx ⟨k', y, h4, hy⟩).elim
      · exact hy.elim
    · rcases hcases j y h2 with ⟨_, hu', h4⟩ | ⟨k', _, rfl, h4⟩ | ⟨rfl, _⟩
      · exact (hunc j y b hu' h4 hy ⟨k, x, h3, hx⟩).elim
      · rw [hhc.disj k k' x y b h3 h4 hx hy]
      · exact hy.elim
    · exact hx.elim
  · rcases hown b hb with ⟨i, x, _, h1, h2⟩ | h1
    · exact hh.out b ⟨i, x, h1, h2⟩
    · exact fun h2 => hhc.out b h1 (hOO b h2)
  · rcases hown b hb with ⟨i, x, _, h1, h2⟩ | h1
    · exact Nat.lt_of_lt_of_le (hh.lt b ⟨i, x, h1, h2⟩) hst.size
    · exact hhc.lt b h1
  · exact hr.ren2 hC hEE (hTT.imp id fun h => h.1) hbv
end

theorem letGo_len {sh sh' : List (SO A)} {s s' : SV A} (h : letGo sh s = some (s', sh')) : sh'.length = sh.length := by
  unfold letGo at h
  split at h
  · split at h <;> first | (cases h; done) | (cases h; simp [setNth_eq])
  · cases h; rfl
theorem letGoL_len : ∀ {cs cs' : SL A} {sh sh' : List (SO A)}, letGoL sh cs = some (cs', sh') → sh'.length = sh.length
  | .nil, _, _, _, h => by simp [letGoL] at h; simp [h.2]
  | .cell s r, _, _, _, h => by
    simp only [letGoL] at h
    split at h
    · rename_i h1
      split at h
      · rename_i h2
        cases h
        rw [letGoL_len h2, letGo_len h1]
      · cases h
    · cases h
  | .run k n xs r, _, _, _, h => by
    simp only [letGoL] at h
    split at h
    · rename_i h1; cases h; exact letGoL_len h1
    · cases h
theorem letGoV_len {sh sh' : List (SO A)} {s s' : SV A} (h : letGoV sh s = some (s', sh')) : sh'.length = sh.length := by
  unfold letGoV at h
  split at h
  · split at h
    · rename_i h1; cases h; exact letGoL_len h1
    · cases h
  · exact letGo_len h
theorem endL_len : ∀ {ws cs cs' : SL A} {sh sh' : List (SO A)}, endL sh ws cs = some (cs', sh') → sh'.length = sh.length
  | .cell a r, .cell h s, _, sh, _, hk => by
    simp only [endL] at hk
    split at hk
    · rename_i h' sh1 h1
      split at hk
      · rename_i s' sh2 h2
        cases hk
        rw [endL_len h2]
        split at h1
        · cases h1; rfl
        · exact letGo_len h1
      · cases hk
    · cases hk
  | .run _ _ _ r, .run k n xs s, _, sh, _, hk => by
    simp only [endL] at hk
    split at hk
    · rename_i s' sh2 h2
      cases hk
      exact endL_len h2
    · cases hk
  | .nil, .nil, _, _, _, hk => letGoL_len (by simpa only [endL] using hk)
  | .nil, .cell _ _, _, _, _, hk => letGoL_len (by simpa only [endL] using hk)
  | .nil, .run _ _ _ _, _, _, _, hk => letGoL_len (by simpa only [endL] using hk)
  | .cell _ _, .nil, _, _, _, hk => letGoL_len (by simpa only [endL] using hk)
  | .cell _ _, .run _ _ _ _, _, _, _, hk => letGoL_len (by simpa only [endL] using hk)
  | .run _ _ _ _, .nil, _, _, _, hk => letGoL_len (by simpa only [endL] using hk)
  | .run _ _ _ _, .cell _ _, _, _, _, hk => letGoL_len (by simpa only [endL] using hk)
theorem endS_len2 : ∀ {ws l l' : List (SV A)} {s s' : List (SO A)}, endS s ws l = some (l', s') → s'.length = s.length
  | [], [], _, _, _, h => by simp [endS] at h; simp [h.2]
  | x :: ws, y :: l, _, _, _, h => by
    simp only [endS] at h
    split at h
    · rename_i h1
      split at h
      · rename_i h2
        cases h
        rw [endS_len2 h2]
        unfold end1 at h1
        split at h1
        · cases h1; rfl
        · cases h1; rfl
        · split at h1
          · split at h1
            · split at h1
              · rename_i h3; cases h1; exact endL_len h3
              · cases h1
            · cases h1
          · exact letGoV_len h1
        · exact letGoV_len h1
      · cases h
    · cases h
  | [], _ :: _, _, _, _, h => by simp [endS] at h
  | _ :: _, [], _, _, _, h => by simp [endS] at h
theorem endS_len {sh sh' : List (SO A)} : ∀ {ws l l' : List (SV A)} {s s' : List (SO A)}, endS s ws l = some (l', s') → ws.length = l.length ∧ l'.length = l.length
  | [], [], _, _, _, h => by simp [endS] at h; simp [h.1]
  | x :: ws, y :: l, _, _, _, h => by
    simp only [endS] at h
    split at h
    · split at h
      · rename_i h2
        cases h
        have := endS_len (sh := sh) (sh' := sh') h2
        simp [this.1, this.2]
      · cases h
    · cases h
  | [], _ :: _, _, _, _, h => by simp [endS] at h
  | _ :: _, [], _, _, _, h => by simp [endS] at h

section
variable {O O2 : Nat → Prop} {env env' : List Wit} {w : World} {C : Enc A}
/-- Arguments, as a callee is handed them. -/
theorem args_arr {σ : List (SV A)} {sh : List (SO A)} (hC : ∀ t y, belowL 0 (C.enc t y) = true) (hh : HR O env w C sh) (hc : Arr 0 σ env env') (hO : ∀ b, ¬ O b → ¬ owned env b → ¬ O2 b ∧ ¬ owned env' b) {ts : List (SV A)} :
    ∀ {l : List (SV A)} {n : Nat} {us vs : List Value}, ArgsR O env w C ts us → us.drop n = vs → l.length = vs.length → (∀ p ∈ slotsFrom n l, okV 0 σ p.2 = true) → (∀ p ∈ slotsFrom n l, slotIs 0 σ ts sh p.1 p.2) → ArgsR O2 env' w C l vs
  | [], n, us, vs, _, _, hl, _, _ => List.eq_nil_of_length_eq_zero hl.symm
  | s :: l, n, us, [], _, _, hl, _, _ => by simp at hl
  | s :: l, n, us, v :: vs, ha, hd, hl, hok, hsl => by
    have h1 := hsl (n, s) List.mem_cons_self
    unfold slotIs at h1
    split at h1
    case h_2 => exact h1.elim
    rename_i s' hs'
    rw [nth_eq] at hs'
    obtain ⟨u, hu, hr⟩ := (argsR_get ha).2 n s' hs'
    have hv : us[n]? = some v := by
      have h2 : (us.drop n)[0]? = some v := by rw [hd]; rfl
      simpa using h2
    rw [hu] at hv; cases hv
    refine ⟨v, vs, rfl, (eqv_rep h1 (rslV_rep hh hr)).arr2 hC hc hO _ (hok (n, s) List.mem_cons_self), args_arr hC hh hc hO ha (n := n + 1) ?_ (by simpa using hl) (fun p hp => hok p (List.mem_cons_of_mem _ hp)) (fun p hp => hsl p (List.mem_cons_of_mem _ hp))⟩
    rw [← List.drop_drop, hd]; rfl
end

section
variable {E : Eng A}
/-- A function does what its contract says, called from anywhere. -/
theorem meets_lent (hS : Sound E) (hG : ∀ g cs, E.GL g = some cs → belowL 0 cs = true) {f : FuncId} {fn : Func} {body : Code} (hf : E.P.funcs[f]? = some fn) (hname : (fn.name == "runtime.NumGoroutine") = false) (hb : fn.body = some body) {L : LS A} {ann : L.X → Anns A} {get : List (SV A) → List (SO A) → Option L.X}
    (hL : fnS E fn body L ann) (hle : ∀ x, L.pre x → (L.hin x).length ≤ (L.hout x).length) (q : Bool) (hq : q = true → ∀ x, L.hin x = []) : Meets E.P E.C E.GL q f (tLent L get) := by
  intro args sh K hk O env w vs ha hh hg
  have hC := hS.below 0
  unfold tLent at hk
  split at hk
  case h_1 => exact hk.elim
  rename_i x hx
  split at hk
  case h_1 => exact hk.elim
  rename_i args' sh1 hend
  split at hk
  case h_1 => exact hk.elim
  rename_i σ hσ
  split at hk
  case isFalse => exact hk.elim
  rename_i hokM
  split at hk
  case isFalse => exact hk.elim
  rename_i hokS
  split at hk
  case isFalse => exact hk.elim
  rename_i hdis
  obtain ⟨hsl, hmore, hpre, hk⟩ := hk
  obtain ⟨env1, hh1, hs1, ha1⟩ := endS_spec (E := E) hh hend ha
  obtain ⟨hd1, hd2⟩ := distinct_get hdis
  obtain ⟨hml, hmget⟩ := moreIs_get hmore
  -- what is lent
  have hO2 : ∀ b, ¬ O b → ¬ owned env1 b → ¬ (O b ∨ (owned env1 b ∧ ¬ owned (arrEnv ([] : List (SO A)) σ env1) b)) := fun b h1 h2 h3 => h3.elim h1 (fun h => h2 h.1)
  obtain ⟨hhc, harr⟩ := heap_arr2 (O2 := fun b => O b ∨ (owned env1 b ∧ ¬ owned (arrEnv ([] : List (SO A)) σ env1) b)) (P := []) hC hh1 hdis hO2
    (fun b h1 h2 => h2.elim (hh1.out b (arrEnv_sub b h1)) (fun h => h.2 h1)) (fun b h => h.elim (hh1.olt b) (fun h => hh1.lt b h.1)) rfl hokM trivial hmore
  rw [List.nil_append] at hhc
  have hO : ∀ b, ¬ O b → ¬ owned env1 b → ¬ (O b ∨ (owned env1 b ∧ ¬ owned (arrEnv ([] : List (SO A)) σ env1) b)) ∧ ¬ owned (arrEnv ([] : List (SO A)) σ env1) b := fun b h1 h2 => ⟨hO2 b h1 h2, fun h3 => h2 (arrEnv_sub b h3)⟩
  have hgc : Glob E.GL (fun b => O b ∨ (owned env1 b ∧ ¬ owned (arrEnv ([] : List (SO A)) σ env1) b)) (arrEnv ([] : List (SO A)) σ env1) w E.C := fun g cs h => (hg.step hs1 g cs h).closed hC hO (by simp only [belowV]; exact hG g cs h)
  have hel := endS_len (sh := sh) (sh' := sh) hend
  have hargs := args_arr (l := L.args x) (n := 0) (vs := vs) hC hh1 harr hO ha1 rfl (by rw [hel.1]; exact (argsR_get ha).1) (fun p hp => okSlots_get hokS p hp) (fun p hp => slotsAre_get hsl p hp)
  have hcall := fn_local hS hf hname hb hL hle hpre hargs hhc hgc
  -- where it came from
  have hl0 : (arrEnv ([] : List (SO A)) σ env1).length = σ.length := by simp [arrEnv, cutEnv]
  have hget0 : ∀ (k : Nat), (arrEnv ([] : List (SO A)) σ env1)[k]? = (σ[k]?).map (srcWit env1) := fun k => by simp [arrEnv, cutEnv]
  have h0' : ∀ (k : Nat) x b, (arrEnv ([] : List (SO A)) σ env1)[k]? = some x → x.owns b → ∃ s j, σ[k]? = some s ∧ srcOf s = some j := fun k x b hx ho => by
    rw [hget0] at hx
    cases hs : σ[k]? with
    | none => rw [hs] at hx; simp at hx
    | some s =>
      rcases hd1 k s hs with ⟨j, _, h2, _⟩ | h1
      · exact ⟨s, j, rfl, h2⟩
      · rw [hs, h1] at hx
        simp only [Option.map_some, srcWit, Option.some.injEq] at hx
        subst hx
        simp [Wit.owns, Value.ownBlock] at ho
  have h01 : ∀ (k : Nat) s j, σ[k]? = some s → srcOf s = some j → ∃ x, env1[j]? = some x ∧ (arrEnv ([] : List (SO A)) σ env1)[k]? = some x ∧ x ≠ .dead ∧ ∀ v, x ≠ .ro v := fun k s j hs hj => by
    have hk' : k < (L.hin x).length := by rw [hml]; exact (List.getElem?_eq_some_iff.1 hs).1
    have hlk := List.getElem?_eq_getElem hk'
    have hmo := hmget k _ s hlk hs
    have hwk : (arrEnv ([] : List (SO A)) σ env1)[k]? = some (srcWit env1 s) := by rw [hget0, hs]; rfl
    have horep := hhc.rep k _ _ hlk hwk
    have hne : srcWit env1 s ≠ .dead ∧ ∀ v, srcWit env1 s ≠ .ro v := by
      generalize srcWit env1 s = y at horep
      generalize (L.hin x)[k] = a at horep hmo
      unfold more1 at hmo
      split at hmo
      all_goals first | exact hmo.elim | skip
      all_goals
        refine ⟨fun e => ?_, fun v e => ?_⟩ <;> subst e <;> exact horep.elim
    have : srcWit env1 s = match env1[j]? with | some x => x | none => .dead := by
      unfold srcOf at hj
      split at hj
      · cases hj; rfl
      · cases hj; rfl
      · cases hj
    cases hj1 : env1[j]? with
    | none => rw [hj1] at this; exact (hne.1 this).elim
    | some y =>
      rw [hj1] at this
      simp only at this
      rw [this] at hwk hne
      exact ⟨y, rfl, hwk, hne.1, hne.2⟩
  intro o a next Q hn
  refine hcall o a next Q (fun v w' ⟨envc, hr, hhr, hst, hbv, hbo⟩ => hn v w' ?_)
  have fin : ∀ (shB : List (SO A)) (envB : List Wit), HR O envB w E.C shB → shB.length = sh.length → Step env w envB w →
      (∀ (k : Nat) s j, σ[k]? = some s → srcOf s = some j → ∃ x, envB[j]? = some x ∧ (arrEnv ([] : List (SO A)) σ env1)[k]? = some x) →
      ((∀ b, ¬ (O b ∨ (owned env1 b ∧ ¬ owned (arrEnv ([] : List (SO A)) σ env1) b)) → ¬ owned envc b → ¬ O b ∧ ∀ (i : Nat) x, envB[i]? = some x → x.owns b → ∃ (k : Nat) (s : SV A), σ[k]? = some s ∧ srcOf s = some i) ∨ (ownV (resV (L.res x)) = true ∧ ownOs (L.hout x) = true)) →
      K (ren (place σ (cnt sh)) (resV (L.res x))) (joinL (layB shB σ (renOs (place σ (cnt sh)) (L.hout x))) (apd .dead σ (renOs (place σ (cnt sh)) (L.hout x)))) →
      Left O E.C q env w K v w' := by
    intro shB envB hhB hlB hsB h0 hT hkB
    obtain ⟨h1, h2, h3⟩ := put_back hC hhB hd2 h0 h0' hl0 (fun b h => .inl h) hhr hst hbv hbo hr hT
    rw [cnt_eq, joinL_eq, renOs_eq, ← hlB] at hkB
    refine ⟨_, _, _, h3, h1, hsB.trans h2, fun h => ⟨hst.size, fun b hb => hst.cells b hb (fun ⟨k, x, hx, _⟩ => ?_)⟩, hkB⟩
    have h4 : σ.length = 0 := by rw [← hml, hq h]; rfl
    have h5 := (List.getElem?_eq_some_iff.1 hx).1
    omega
  have hlen1 : sh1.length = sh.length := by
    have h1 : env.length ≤ env1.length := hs1.elen
    have h2 := endS_len2 hend
    exact h2
  by_cases hown : ownV (resV (L.res x)) = true ∧ ownOs (L.hout x) = true
  · rw [if_pos hown.1, if_pos hown.2] at hk
    refine fin sh env hh rfl (Step.refl _ _) (fun k s j hs hj => ?_) (.inr hown) hk
    obtain ⟨y, h1, h2, h3, h4⟩ := h01 k s j hs hj
    have hj' : j < env.length := by
      have h5 := (List.getElem?_eq_some_iff.1 h1).1
      have h6 := hh1.len
      have h7 := hh.len
      omega
    obtain ⟨z, h5, h6⟩ := hs1.keep j _ (List.getElem?_eq_getElem hj')
    rw [h1] at h5; cases h5
    refine ⟨_, List.getElem?_eq_getElem hj', ?_⟩
    rcases h6 with e | e | ⟨u, _, e⟩
    · rw [h2, e]
    · exact (h3 e).elim
    · exact (h4 u e).elim
  · have hk' : K (ren (place σ (cnt sh)) (resV (L.res x))) (joinL (layB sh1 σ (renOs (place σ (cnt sh)) (L.hout x))) (apd .dead σ (renOs (place σ (cnt sh)) (L.hout x)))) := by
      by_cases h1 : ownV (resV (L.res x)) = true
      · rw [if_pos h1, if_neg (fun h2 => hown ⟨h1, h2⟩)] at hk; exact hk
      · rw [if_neg h1] at hk; exact hk
    refine fin sh1 env1 hh1 hlen1 hs1 (fun k s j hs hj => by obtain ⟨y, h1, h2, _⟩ := h01 k s j hs hj; exact ⟨y, h1, h2⟩) (.inl fun b h1 h2 => ⟨fun h3 => h1 (.inl h3), fun i y h3 h4 => ?_⟩) hk'
    by_cases hc : owned (arrEnv ([] : List (SO A)) σ env1) b
    · obtain ⟨k, z, hz, hzo⟩ := hc
      obtain ⟨s, j, hs, hj⟩ := h0' k z b hz hzo
      obtain ⟨z', h5, h6, _⟩ := h01 k s j hs hj
      rw [hz] at h6; cases h6
      have := hh1.disj i j y z b h3 h5 h4 hzo
      subst this
      exact ⟨k, s, hs, hj⟩
    · exact (h1 (.inr ⟨⟨i, y, h3, h4⟩, hc⟩)).elim

/-- A call that is walked where it stands. -/
def tInline (E : Eng A) (fn : Func) (body : Code) (ann : Anns A) : SpecT A := fun args sh K => codeS E ann body (fun e ts sh' _ => match e with
  | .exit _ => False
  | _ => resS E ts sh' fn.results.toList fun l => K (resV l) sh') (nameAll 0 args ++ padJ (fn.ntmps - cnt args)) sh (cnt args)
theorem meets_inline (hS : Sound E) {f : FuncId} {fn : Func} {body : Code} (hf : E.P.funcs[f]? = some fn) (hname : (fn.name == "runtime.NumGoroutine") = false) (hb : fn.body = some body) {ann : Anns A} : Meets E.P E.C E.GL false f (tInline E fn body ann) := by
  intro args sh K hk O env w vs ha hh hg
  refine callR_of_calls hf hname hb (calls_of_wp hf hb (wp_mono (codeS_sound hS (WF.start _ _) (rel_start ha hh hg) hk) (fun e a' w' he => ?_)))
  obtain ⟨ex, ts', sh', env', n', h1, h2, h3, h4, h5, h6⟩ := he
  have key : (resS E ts' sh' fn.results.toList fun l => K (resV l) sh') → a'.defers = [] ∧ ∃ v, (results fn a'.tmps).run E.P w' = .ok v w' ∧ Left O E.C false env w K v w' := by
    intro hk
    obtain ⟨ss, v, hK, hrun, vs, h7, rfl⟩ := run_results h2 hk
    exact ⟨h2.defers, _, hrun, _, sh', env', resV_rep h7, h2.heap, h3, fun h => by simp at h, hK⟩
  cases ex with
  | exit i => exact h6.elim
  | normal =>
    cases e <;> simp [exOf] at h1
    obtain ⟨h7, v, h8, h9⟩ := key h6
    exact ⟨h7, v, h8, h9⟩
  | ret =>
    cases e <;> simp [exOf] at h1
    obtain ⟨h7, v, h8, h9⟩ := key h6
    exact ⟨h7, v, h8, h9⟩
end
end Go.Eng

/-! The engine for this program: its data, its table of contracts. Conditions: none. -/
namespace Go.Proofs.YtcglahfmnoghjaaGreatDoor
open Go Go.Eng Go.Proofs.Tryz

structure Br where
  keys : List Int
  lock : List Int
  after : Int
  older : Int

/-- An input of a transaction, and an output. -/
structure TIn where
  tx : List Int
  n : Int
  branch : Int
  secret : List Int
structure TOut where
  amount : Int
  cond : List Br
/-- An output of a transaction, by its number. -/
structure Pt where
  tx : List Int
  n : Int
/-- The kinds of data that vectors and maps have. -/
inductive DK where
  | int
  | point
  | br
  | str
  | ints
  | bytes
  | tin
  | outP
  | outR
  | other
def DT : DK → Type
  | .int => Int
  | .point => Pt
  | .br => Br
  | .str => ByteArray
  | .ints => List Int
  | .bytes => List Int
  | .tin => TIn
  | .outP => TOut
  | .outR => TOut
  | .other => Unit
def dkOf : List (Nat × DK) → Nat → DK
  | [], _ => .other
  | p :: l, t => cond (Nat.beq t p.1) p.2 (dkOf l t)
def dkList : List (Nat × DK) := [(3, .int), (38, .point), (29, .point), (85, .br), (102, .br), (9, .str), (83, .ints), (51, .bytes), (87, .tin), (80, .tin), (90, .outP), (82, .outR)]
def AA (t : Nat) : Type := DT (dkOf dkList t)

def encBr (b : Br) : SL AA := .cell (.rints .i64 b.keys) (.run .u8 32 b.lock (.cell (.int .i64 b.after) (.cell (.int .i64 b.older) .nil)))
def asI : SV AA → Option Int
  | .int .i64 n => some n
  | .lit .i64 n => some n
  | _ => none
def asIs (k : IntKind) : SV AA → Option (List Int)
  | .rints k' ks => if k' = k then some ks else none
  | .val (.slice none 0 0) => some []
  | _ => none
def decBr : SL AA → Option Br
  | .cell ks (.run .u8 n l (.cell x (.cell y .nil))) => if n = 32 then (match asIs .i64 ks, asI x, asI y with
    | some ks, some a, some o => some ⟨ks, l, a, o⟩
    | _, _, _ => none) else none
  | _ => none
theorem asI_eqv {x : SV AA} {n : Int} (h : asI x = some n) : eqv (.int .i64 n) x := by
  unfold asI at h
  split at h
  · cases h; simp [eqv]
  · cases h; simp [eqv]
  · cases h
theorem asIs_eqv {x : SV AA} {k : IntKind} {ks : List Int} (h : asIs k x = some ks) : eqv (.rints k ks) x := by
  unfold asIs at h
  split at h
  · split at h
    · rename_i e; subst e; cases h; simp [eqv]
    · cases h
  · cases h; simp [eqv]
  · cases h
theorem decBr_eqv {cs : SL AA} {b : Br} (h : decBr cs = some b) : eqvL (encBr b) cs := by
  unfold decBr at h
  split at h
  · split at h
    · rename_i e
      subst e
      split at h
      · rename_i h1 h2 h3
        cases h
        simp only [encBr, eqvL, if_true, true_and, and_true]
        exact ⟨asIs_eqv h1, asI_eqv h2, asI_eqv h3⟩
      · cases h
    · cases h
  · cases h
def encPt (p : Pt) : SL AA := .run .u8 32 p.tx (.cell (.int .i64 p.n) .nil)
def encK : (k : DK) → DT k → SL AA
  | .int, n => .cell (.int .i64 n) .nil
  | .point, p => encPt p
  | .br, b => encBr b
  | .str, s => .cell (.val (.string s)) .nil
  | .ints, xs => .cell (.rints .i64 xs) .nil
  | .bytes, xs => .cell (.rints .u8 xs) .nil
  | .tin, x => .run .u8 32 (TIn.tx x) (.cell (.int .i64 (TIn.n x)) (.cell (.int .i64 (TIn.branch x)) (.cell (.rints .u8 (TIn.secret x)) .nil)))
  | .outP, x => .cell (.int .i64 (TOut.amount x)) (.cell (.rseq 102 (show List (AA 102) from TOut.cond x)) .nil)
  | .outR, x => .cell (.int .i64 (TOut.amount x)) (.cell (.rseq 85 (show List (AA 85) from TOut.cond x)) .nil)
  | .other, _ => .nil
def sizeK : DK → Nat
  | .int => 1
  | .point => 33
  | .br => 35
  | .str => 1
  | .ints => 1
  | .bytes => 1
  | .tin => 35
  | .outP => 2
  | .outR => 2
  | .other => 0
def aggK : DK → Bool
  | .br => true
  | .tin => true
  | .outP => true
  | .outR => true
  | .point => true
  | _ => false
def asBrs (t : Nat) (h : AA t = Br) : SV AA → Option (List Br)
  | .rseq u xs => if e : u = t then some (h ▸ e ▸ xs) else none
  | .val (.slice none 0 0) => some []
  | _ => none
def decK : (k : DK) → SL AA → Option (DT k)
  | .int, .cell x .nil => asI x
  | .point, .run .u8 _ tx (.cell n .nil) => match asI n with
    | some n => some ⟨tx, n⟩
    | none => none
  | .br, cs => decBr cs
  | .str, .cell (.val (.string s)) .nil => some s
  | .ints, .cell x .nil => asIs .i64 x
  | .bytes, .cell x .nil => asIs .u8 x
  | .tin, .run .u8 _ tx (.cell n (.cell b (.cell s .nil))) => match asI n, asI b, asIs .u8 s with
    | some n, some b, some s => some ⟨tx, n, b, s⟩
    | _, _, _ => none
  | .outP, .cell n (.cell s .nil) => match asI n, asBrs 102 rfl s with
    | some n, some bs => some ⟨n, bs⟩
    | _, _ => none
  | .outR, .cell n (.cell s .nil) => match asI n, asBrs 85 rfl s with
    | some n, some bs => some ⟨n, bs⟩
    | _, _ => none
  | _, _ => none
def encA (t : Nat) (y : AA t) : SL AA := encK (dkOf dkList t) y
def sizeA (t : Nat) : Nat := sizeK (dkOf dkList t)
def decA (t : Nat) (cs : SL AA) : Option (AA t) := decK (dkOf dkList t) cs
theorem encK_stor (k : DK) (y : DT k) : storable ([] : List (SO AA)) (encK k y) = true := by cases k <;> rfl
theorem encK_len (k : DK) (y : DT k) : (encK k y).len = sizeK k := by cases k <;> rfl
theorem encK_below (n : Nat) (k : DK) (y : DT k) : belowL n (encK k y) = true := by cases k <;> rfl

def aggA (t : Nat) : Bool := aggK (dkOf dkList t)
def CC : Enc AA := ⟨encA, sizeA, aggA⟩

/-! ## Keys of maps -/
def ptShape (P : Program) (t : Nat) : Bool := match desc P t with
  | .struct fs => match fs.toList with
    | [f, g] => if f.name = "_" then false else (if g.name = "_" then false else (if okT P f.type then (if okT P g.type then (if f.offset = 0 then (if g.offset = 32 then (if tsize P f.type = 32 then (match desc P f.type with
        | .array n e => if n = 32 then (match desc P e with
          | .int _ => if tsize P e = 1 then (match desc P g.type with
            | .int _ => true
            | _ => false) else false
          | _ => false) else false
        | _ => false) else false) else false) else false) else false) else false))
    | _ => false
  | _ => false
theorem pt_key {P : Program} {t : Nat} (h : ptShape P t = true) (x y : Pt) : ∃ b, keqS P t (encPt x) (encPt y) = some b ∧ (b = true ↔ x = y) := by
  unfold ptShape at h
  split at h
  case h_2 => cases h
  rename_i fs hd
  split at h
  case h_2 => cases h
  rename_i f g hfs
  split at h
  · cases h
  rename_i n1
  split at h
  · cases h
  rename_i n2
  split at h
  case isFalse => cases h
  rename_i o1
  split at h
  case isFalse => cases h
  rename_i o2
  split at h
  case isFalse => cases h
  rename_i f1
  split at h
  case isFalse => cases h
  rename_i f2
  split at h
  case isFalse => cases h
  rename_i s1
  split at h
  case h_2 => cases h
  rename_i n e d1
  split at h
  case isFalse => cases h
  rename_i hn
  split at h
  case h_2 => cases h
  rename_i k0 d2
  split at h
  case isFalse => cases h
  rename_i s2
  split at h
  case h_2 => cases h
  rename_i k1 d3
  subst hn
  have a1 : aggT P f.type = true := by simp [aggT, d1]
  have a2 : aggT P g.type = false := by simp [aggT, d3]
  have r1 : ∀ z : Pt, rdCells P f.type (encPt z) f.offset = some (.agg (.run .u8 32 z.tx .nil)) := fun z => by
    unfold rdCells
    rw [if_pos a1, s1, f1]
    rfl
  have r2 : ∀ z : Pt, rdCells P g.type (encPt z) g.offset = some (.int .i64 z.n) := fun z => by
    unfold rdCells
    rw [if_neg (by simp [a2]), f2]
    rfl
  have q1 : eq1 P f.type (.agg (.run .u8 32 x.tx .nil) : SV AA) (.agg (.run .u8 32 y.tx .nil)) = some (x.tx == y.tx) := by
    unfold eq1
    rw [d1]
    simp only [d2, s2, if_true]
  have q2 : eq1 P g.type (.int .i64 x.n : SV AA) (.int .i64 y.n) = some (x.n == y.n) := by
    unfold eq1
    rw [d3]
    simp [Eng.asInt]
  refine ⟨(x.tx == y.tx) && ((x.n == y.n) && true), ?_, ?_⟩
  · unfold keqS
    rw [hd]
    simp only [hfs, eqFs, n1, n2, o1, o2, r1, r2, q1, q2, if_true, if_false]
  · simp only [Bool.and_true, Bool.and_eq_true, beq_iff_eq]
    constructor
    · rintro ⟨h1, h2⟩
      cases x; cases y
      simp only at h1 h2
      rw [h1, h2]
    · intro h
      rw [h]
      exact ⟨rfl, rfl⟩
def keyA (P : Program) (t : Nat) : Bool := if t = 38 then ptShape P t else false
theorem keyA_pl {P : Program} {t : Nat} (h : keyA P t = true) (x : AA t) : plainInts (CC.enc t x) = true := by
  unfold keyA at h
  split at h
  · rename_i e; subst e; rfl
  · cases h
theorem keyA_ok {P : Program} {t : Nat} (h : keyA P t = true) (x y : AA t) : ∃ b, keqS P t (CC.enc t x) (CC.enc t y) = some b ∧ (b = true ↔ x = y) := by
  unfold keyA at h
  split at h
  · rename_i e; subst e; exact pt_key h x y
  · cases h
/-- The table of blake's order. -/
def orderL : List Int := [0, 1, 2, 3, 4, 5, 6, 7, 8, 9, 10, 11, 12, 13, 14, 15, 14, 10, 4, 8, 9, 15, 13, 6, 1, 12, 0, 2, 11, 7, 5, 3, 11, 8, 12, 0, 5, 2, 15, 13, 10, 14, 3, 6, 7, 1, 9, 4, 7, 9, 3, 1, 13, 12, 11, 14, 2, 6, 5, 10, 4, 0, 15, 8, 9, 0, 5, 7, 2, 4, 10, 15, 14, 1, 11, 12, 6, 8, 3, 13, 2, 12, 6, 10, 0, 11, 8, 3, 4, 13, 7, 5, 15, 14, 1, 9, 12, 5, 1, 15, 14, 13, 4, 10, 0, 7, 6, 3, 9, 2, 8, 11, 13, 11, 7, 14, 12, 1, 3, 9, 5, 0, 15, 4, 8, 6, 2, 10, 6, 15, 14, 9, 11, 3, 0, 8, 12, 2, 13, 7, 1, 4, 10, 5, 10, 2, 8, 4, 7, 6, 1, 5, 15, 11, 9, 14, 3, 12, 13, 0]
/-- What the package-level variables hold: errors.errorType; blake's order. -/
def GG (g : Nat) : Option (SL AA) := cond (Nat.beq g 0) (some (.cell (.val (.iface 209 (.agg #[.pointer (some ⟨3, 57, none⟩)]))) .nil)) (cond (Nat.beq g 2) (some (.run .u8 160 orderL .nil)) none)
theorem GG_below : ∀ g cs, GG g = some cs → belowL 0 cs = true := by
  intro g cs h
  unfold GG at h
  cases e : Nat.beq g 0 with
  | true => rw [e] at h; cases h; rfl
  | false =>
    rw [e] at h
    cases e2 : Nat.beq g 2 with
    | true => rw [e2] at h; cases h; rfl
    | false => rw [e2] at h; cases h

def ttOf : List (Nat × SpecT AA) → Nat → SpecT AA
  | [], _ => fun _ _ _ => False
  | p :: l, g => cond (Nat.beq g p.1) p.2 (ttOf l g)

/-- These types' values are held against each other. -/
def eqList : List Nat := [27, 38, 29]
def eqA (P : Program) (t : Nat) : Bool := if inL t eqList then (if P.stoodInHeld t then false else (if P.eqGuardType P.depth t then false else true)) else false
theorem eqA_ok {P : Program} {t : Nat} (h : eqA P t = true) : P.stoodInHeld t = false ∧ P.eqGuardType P.depth t = false := by
  unfold eqA at h
  split at h
  · split at h
    · cases h
    · rename_i h1
      split at h
      · cases h
      · rename_i h2
        exact ⟨by simpa using h1, by simpa using h2⟩
  · cases h
/-- These write in the memory that they are lent. -/
def loud : List Nat := [39, 40, 86, 38, 42, 57, 75, 84, 85, 91, 125, 93, 146, 132, 117, 118, 144, 61, 62, 119, 105, 64, 49, 50, 51, 52, 95, 96, 97, 98, 126]
def qfA (g : Nat) : Bool := if inL g loud then false else true

noncomputable def EX (u : Bool) (P : Program) (l : List (Nat × SpecT AA)) : Eng AA where
  P := P
  TT := ttOf l
  GL := GG
  C := CC
  dec := decA
  qf := qfA
  nu := u
  eqT := eqA P
  eqOk := fun _ h => eqA_ok h
  encOk := fun _ y => encK_stor _ y
  encLen := fun _ y => encK_len _ y
  keyT := keyA P
  keyPl := fun _ h x => keyA_pl h x
  keyOk := fun _ h x y => keyA_ok h x y

noncomputable def EE (P : Program) (l : List (Nat × SpecT AA)) : Eng AA := EX false P l
/-- With new variables late, and with loads early. -/
noncomputable def EF (P : Program) (l : List (Nat × SpecT AA)) : Eng AA := EX true P l

/-- These contracts are met. -/
structure Known (P : Program) (l : List (Nat × SpecT AA)) : Prop where
  ok : ∀ g, Meets P CC GG (qfA g) g (ttOf l g)
section
variable {P : Program}
theorem Known.nil : Known P [] := ⟨fun _ _ _ _ h => h.elim⟩
theorem _root_.Go.Eng.Meets.any {C : Enc AA} {GL : Nat → Option (SL AA)} {n : Nat} {T : SpecT AA} (h : Meets P C GL true n T) (q : Bool) : Meets P C GL q n T := by
  intro args sh K hk O env w vs ha hh hg o a next Q hn
  refine h args sh K hk O env w vs ha hh hg o a next Q (fun v w' ⟨s, sh', env', h1, h2, h3, h4, h5⟩ => hn v w' ⟨s, sh', env', h1, h2, h3, fun _ => h4 rfl, h5⟩)
theorem Known.add {l : List (Nat × SpecT AA)} {n : Nat} {T : SpecT AA} (h : Meets P CC GG (qfA n) n T) (k : Known P l) : Known P ((n, T) :: l) := ⟨fun g => by
  show Meets P CC GG (qfA g) g (cond (Nat.beq g n) T (ttOf l g))
  cases e : Nat.beq g n with
  | true => have := Nat.eq_of_beq_eq_true e; subst this; exact h
  | false => exact k.ok g⟩
theorem Known.cons {l : List (Nat × SpecT AA)} {n : Nat} {T : SpecT AA} (h : Meets P CC GG true n T) (k : Known P l) : Known P ((n, T) :: l) := .add (h.any _) k

theorem sound {u : Bool} {l : List (Nat × SpecT AA)} (hm : P.follows .mixedOrders = true) (k : Known P l) : Sound (EX u P l) where
  tt := k.ok
  below := fun n _ y => encK_below n _ y
  mixed := hm

/-- A function is as its contract says. -/
structure Fits (E : Eng AA) (fn : Func) (body : Code) (L : LS AA) (ann : L.X → Anns AA) : Prop where
  fits : fnS E fn body L ann

/-- One more contract. -/
theorem Known.more {l : List (Nat × SpecT AA)} (k : Known P l) (hm : P.follows .mixedOrders = true) {f : FuncId} {fn : Func} {body : Code} (hf : P.funcs[f]? = some fn) (hname : (fn.name == "runtime.NumGoroutine") = false) (hb : fn.body = some body) {L : LS AA} {ann : L.X → Anns AA} {get : List (SV AA) → Option L.X}
    {E : Eng AA} {u : Bool} (hE : E = EX u P l) (hL : Fits E fn body L ann) (hp : Pure L get) : Known P ((f, tOf L get) :: l) := by
  subst hE
  exact .cons (meets_pure (E := EX u P l) (sound hm k) GG_below hf hname hb hL.fits hp true) k
theorem Known.more2 {l : List (Nat × SpecT AA)} (k : Known P l) (hm : P.follows .mixedOrders = true) {f : FuncId} {fn : Func} {body : Code} (hf : P.funcs[f]? = some fn) (hname : (fn.name == "runtime.NumGoroutine") = false) (hb : fn.body = some body) {L : LS2 AA} {ann ann' : L.X → Anns AA} {get : List (SV AA) → Option L.X}
    {E : Eng AA} {u : Bool} (hE : E = EX u P l) (h1 : Fits E fn body (L.one true) ann) (h2 : Fits E fn body (L.one false) ann') (got : ∀ args x, get args = some x → eqva (L.args x) args) (closed : ∀ x, belowVs 0 (L.args x) = true) : Known P ((f, tIf L get) :: l) := by
  subst hE
  exact .cons (meets_if (meets_pure (E := EX u P l) (sound hm k) GG_below hf hname hb h1.fits ⟨fun _ => rfl, got, closed⟩ true) (meets_pure (E := EX u P l) (sound hm k) GG_below hf hname hb h2.fits ⟨fun _ => rfl, got, closed⟩ true)) k
end

/-- A function's body, by its number. -/
structure Has (P : Program) (f : FuncId) (fn : Func) (body : Code) : Prop where
  is : P.funcs[f]? = some fn
  name : (fn.name == "runtime.NumGoroutine") = false
  body : fn.body = some body
/-- One more contract, with memory that is lent. -/
theorem Known.lent {P : Program} {l : List (Nat × SpecT AA)} (k : Known P l) (hm : P.follows .mixedOrders = true) {f : FuncId} {fn : Func} {body : Code} (hf : Has P f fn body) {L : LS AA} {ann : L.X → Anns AA} {get : List (SV AA) → List (SO AA) → Option L.X}
    {E : Eng AA} {u : Bool} (hE : E = EX u P l) (hL : Fits E fn body L ann) (hle : ∀ x, L.pre x → (L.hin x).length ≤ (L.hout x).length) (hq : qfA f = true → ∀ x, L.hin x = []) : Known P ((f, tLent L get) :: l) := by
  subst hE
  exact .add (meets_lent (E := EX u P l) (sound hm k) GG_below hf.is hf.name hf.body hL.fits hle (qfA f) hq) k
/-- A function that is walked where it is called. -/
theorem Known.inl {P : Program} {l : List (Nat × SpecT AA)} (k : Known P l) (hm : P.follows .mixedOrders = true) {f : FuncId} {fn : Func} {body : Code} (hf : Has P f fn body) {ann : Anns AA}
    {E : Eng AA} {u : Bool} (hE : E = EX u P l) (hq : qfA f = false) : Known P ((f, tInline E fn body ann) :: l) := by
  subst hE
  refine .add ?_ k
  rw [hq]
  exact meets_inline (E := EX u P l) (sound hm k) hf.is hf.name hf.body

theorem mixed : prog.follows .mixedOrders = true := by kernel_rfl
noncomputable def E0 : Eng AA := EE prog []
def bodyOf (f : Func) : Code := match f.body with
  | some c => c
  | none => .skip
end Go.Proofs.YtcglahfmnoghjaaGreatDoor

/-! Contracts of small functions. Conditions: none. -/
namespace Go.Proofs.YtcglahfmnoghjaaGreatDoor
open Go Go.Eng Go.Proofs.Tryz

/-- The keys up to a place go up, and name parties. -/
def Up (ks : List Int) (n : Nat) : Prop := ∀ i : Nat, i < n → 0 ≤ ks.getD i 0 ∧ ks.getD i 0 < 16 ∧ (i = 0 ∨ ks.getD (i - 1) 0 < ks.getD i 0)
/-- A branch that may be. -/
def May (b : Br) : Prop := Up b.keys b.keys.length ∧ 1 ≤ b.keys.length ∧ 0 ≤ b.after ∧ b.after ≤ 1099511627776 ∧ 0 ≤ b.older ∧ b.older ≤ 65536
open Classical in
noncomputable def mayB (b : Br) : Bool := decide (May b)

noncomputable def mayLS : LS AA where
  X := Br
  pre := fun _ => True
  args := fun b => [.agg (encBr b)]
  hin := fun _ => []
  res := fun b => [.sb 0 (mayB b)]
  hout := fun _ => []
def mayGet : List (SV AA) → Option Br
  | [.agg cs] => decBr cs
  | _ => none
def mayAnn (b : Br) : Anns AA := fun _ _ _ => some { X := Nat, inv := fun k => k ≤ b.keys.length ∧ b.keys.length ≤ 9223372036854775807 ∧ Up b.keys k, meas := fun k => b.keys.length - k, slots := fun k => [(8, .int .i64 k)], heap := fun _ => [] }
end Go.Proofs.YtcglahfmnoghjaaGreatDoor

/-! Contracts of small functions: they hold. Conditions: none. -/
namespace Go.Proofs.YtcglahfmnoghjaaGreatDoor
open Go Go.Eng Go.Proofs.Tryz

theorem up_zero (ks : List Int) : Up ks 0 := fun i h => absurd h (Nat.not_lt_zero i)
theorem up_succ {ks : List Int} {n : Nat} (h : Up ks n) (h1 : 0 ≤ ks.getD n 0) (h2 : ks.getD n 0 < 16) (h3 : n = 0 ∨ ks.getD (n - 1) 0 < ks.getD n 0) : Up ks (n + 1) := fun i hi => by
  rcases Nat.lt_or_ge i n with h4 | h4
  · exact h i h4
  · have : i = n := by omega
    subst this
    exact ⟨h1, h2, h3⟩
theorem mayB_false {b : Br} (h : ¬ May b) : mayB b = false := by simp [mayB, h]
theorem mayB_true {b : Br} (h : May b) : mayB b = true := by simp [mayB, h]

def mayVC : Prop := ∀ (x : Br),
  True →
    (↑x.keys.length : Int) ≤ (9223372036854775807 : Int) →
      (∃ x_1,
          (x_1 ≤ x.keys.length ∧ x.keys.length ≤ (9223372036854775807 : Nat) ∧ Up x.keys x_1) ∧
            (↑x_1 : Int) = (0 : Int) ∧
              ((x.keys = x.keys ∧ x.lock = x.lock ∧ x.after = x.after ∧ x.older = x.older ∧ True) ∧ True) ∧ True) ∧
        ∀ (x_1 : Nat),
          x_1 ≤ x.keys.length ∧ x.keys.length ≤ (9223372036854775807 : Nat) ∧ Up x.keys x_1 →
            (decide ((↑x_1 : Int) < (↑x.keys.length : Int)) = true →
                (0 : Int) ≤ (↑x_1 : Int) ∧
                  (↑x_1 : Int) < (↑x.keys.length : Int) ∧
                    (↑x_1 : Int).toNat < x.keys.length ∧
                      (decide (x.keys.getD (↑x_1 : Int).toNat (0 : Int) < (0 : Int)) = true →
                          mayB x = false ∧ True ∧ True) ∧
                        (decide (x.keys.getD (↑x_1 : Int).toNat (0 : Int) < (0 : Int)) = false →
                          (decide (x.keys.getD (↑x_1 : Int).toNat (0 : Int) ≥ (16 : Int)) = true →
                              mayB x = false ∧ True ∧ True) ∧
                            (decide (x.keys.getD (↑x_1 : Int).toNat (0 : Int) ≥ (16 : Int)) = false →
                              (decide ((↑x_1 : Int) > (0 : Int)) = true →
                                  inI64 ((↑x_1 : Int) - (1 : Int)) ∧
                                    (0 : Int) ≤ (↑x_1 : Int) - (1 : Int) ∧
                                      (↑x_1 : Int) - (1 : Int) < (↑x.keys.length : Int) ∧
                                        ((↑x_1 : Int) - (1 : Int)).toNat < x.keys.length ∧
                                          (decide
                                                  (x.keys.getD ((↑x_1 : Int) - (1 : Int)).toNat (0 : Int) ≥
                                                    x.keys.getD (↑x_1 : Int).toNat (0 : Int)) =
                                                true →
                                              mayB x = false ∧ True ∧ True) ∧
                                            (decide
                                                  (x.keys.getD ((↑x_1 : Int) - (1 : Int)).toNat (0 : Int) ≥
                                                    x.keys.getD (↑x_1 : Int).toNat (0 : Int)) =
                                                false →
                                              inI64 ((↑x_1 : Int) + (1 : Int)) ∧
                                                ∃ y,
                                                  (y ≤ x.keys.length ∧
                                                      x.keys.length ≤ (9223372036854775807 : Nat) ∧ Up x.keys y) ∧
                                                    x.keys.length - y < x.keys.length - x_1 ∧
                                                      (↑y : Int) = (↑x_1 : Int) + (1 : Int) ∧
                                                        ((x.keys = x.keys ∧
                                                              x.lock = x.lock ∧
                                                                x.after = x.after ∧ x.older = x.older ∧ True) ∧
                                                            True) ∧
                                                          True)) ∧
                                (decide ((↑x_1 : Int) > (0 : Int)) = false →
                                  inI64 ((↑x_1 : Int) + (1 : Int)) ∧
                                    ∃ y,
                                      (y ≤ x.keys.length ∧ x.keys.length ≤ (9223372036854775807 : Nat) ∧ Up x.keys y) ∧
                                        x.keys.length - y < x.keys.length - x_1 ∧
                                          (↑y : Int) = (↑x_1 : Int) + (1 : Int) ∧
                                            ((x.keys = x.keys ∧
                                                  x.lock = x.lock ∧ x.after = x.after ∧ x.older = x.older ∧ True) ∧
                                                True) ∧
                                              True)))) ∧
              (decide ((↑x_1 : Int) < (↑x.keys.length : Int)) = false →
                (↑x.keys.length : Int) ≤ (9223372036854775807 : Int) →
                  (decide ((↑x.keys.length : Int) ≥ (1 : Int)) = true →
                      (decide (x.after ≥ (0 : Int)) = true →
                          (decide (x.after ≤ (1099511627776 : Int)) = true →
                              (decide (x.older ≥ (0 : Int)) = true →
                                  mayB x = decide (x.older ≤ (65536 : Int)) ∧ True ∧ True) ∧
                                (decide (x.older ≥ (0 : Int)) = false → mayB x = false ∧ True ∧ True)) ∧
                            (decide (x.after ≤ (1099511627776 : Int)) = false → mayB x = false ∧ True ∧ True)) ∧
                        (decide (x.after ≥ (0 : Int)) = false → mayB x = false ∧ True ∧ True)) ∧
                    (decide ((↑x.keys.length : Int) ≥ (1 : Int)) = false → mayB x = false ∧ True ∧ True))
theorem may_eq : mayVC = fnS E0 f100 (bodyOf f100) mayLS mayAnn := by kernel_rfl
theorem may_vc : mayVC := by
  unfold mayVC
  intro x _
  simp only [decide_eq_true_eq, decide_eq_false_iff_not, and_true, Int.not_lt, ge_iff_le, gt_iff_lt, Int.not_le]
  intro hlen
  refine ⟨⟨0, ⟨Nat.zero_le _, by omega, up_zero _⟩, rfl⟩, ?_⟩
  rintro k ⟨hk, hl, hup⟩
  refine ⟨fun h1 => ⟨by omega, by omega, by omega, fun h2 => ?_, fun h2 => ⟨fun h3 => ?_, fun h3 => ⟨fun h4 => ⟨by unfold inI64; omega, by omega, by omega, by omega, fun h5 => ?_, fun h5 => ⟨by unfold inI64; omega, k + 1, ⟨by omega, by omega, up_succ hup h2 h3 (.inr ?_)⟩, by omega, by omega⟩⟩,
    fun h4 => ⟨by unfold inI64; omega, k + 1, ⟨by omega, by omega, up_succ hup h2 h3 (.inl (by omega))⟩, by omega, by omega⟩⟩⟩⟩,
    fun h1 _ => ?_⟩
  · exact mayB_false fun hm => by have := (hm.1 k (by omega)).1; simp only [Int.toNat_natCast] at h2; omega
  · exact mayB_false fun hm => by have := (hm.1 k (by omega)).2.1; simp only [Int.toNat_natCast] at h3; omega
  · exact mayB_false fun hm => by
      have := (hm.1 k (by omega)).2.2
      have e : ((k : Int) - 1).toNat = k - 1 := by omega
      rw [e] at h5
      simp only [Int.toNat_natCast] at h5
      omega
  · have e : ((k : Int) - 1).toNat = k - 1 := by omega
    rw [e] at h5
    simpa using h5
  · have hup' : Up x.keys x.keys.length := by
      have : k = x.keys.length := by omega
      rw [← this]; exact hup
    refine ⟨fun h2 => ⟨fun h3 => ⟨fun h4 => ⟨fun h5 => ?_, fun h5 => mayB_false fun hm => ?_⟩, fun h4 => mayB_false fun hm => ?_⟩, fun h3 => mayB_false fun hm => ?_⟩, fun h2 => mayB_false fun hm => ?_⟩
    · unfold mayB
      congr 1
      exact propext ⟨fun hm => hm.2.2.2.2.2, fun h6 => ⟨hup', by omega, h3, h4, h5, h6⟩⟩
    · have := hm.2.2.2.2.1; omega
    · have := hm.2.2.2.1; omega
    · have := hm.2.2.1; omega
    · have := hm.2.1; omega
theorem may_ok : Fits E0 f100 (bodyOf f100) mayLS mayAnn := by
  constructor
  rw [← may_eq]
  exact may_vc
end Go.Proofs.YtcglahfmnoghjaaGreatDoor

/-! Contracts of small functions, in a row: first. Conditions: none. -/
namespace Go.Proofs.YtcglahfmnoghjaaGreatDoor
open Go Go.Eng Go.Proofs.Tryz

theorem mayPure : Pure mayLS mayGet where
  hin := fun _ => rfl
  got := fun args x h => by
    unfold mayGet at h
    split at h
    · exact ⟨by simp only [eqv]; exact decBr_eqv h, trivial⟩
    · cases h
  closed := fun _ => rfl
theorem E0_eq : E0 = EE prog [] := by
  unfold E0
  rfl
def L1 : List (Nat × SpecT AA) := [(100, tOf mayLS mayGet)]
theorem f44_is : prog.funcs[100]? = some f100 := by kernel_rfl
theorem f44_body : f100.body = some (bodyOf f100) := by kernel_rfl
theorem f44_name : (f100.name == "runtime.NumGoroutine") = false := by kernel_rfl
theorem known1 : Known prog L1 := by
  unfold L1
  exact Known.more Known.nil mixed f44_is f44_name f44_body E0_eq may_ok mayPure
noncomputable def E1 : Eng AA := EE prog L1

noncomputable def oddLS : LS AA where
  X := Br
  pre := fun _ => True
  args := fun b => [.agg (encBr b)]
  hin := fun _ => []
  res := fun b => [.sb 0 (!mayB b)]
  hout := fun _ => []
def noAnn {X : Type} : X → Anns AA := fun _ _ _ _ => none
end Go.Proofs.YtcglahfmnoghjaaGreatDoor

/-! Contracts around a condition's check: what they say. Conditions: none. -/
namespace Go.Proofs.YtcglahfmnoghjaaGreatDoor
open Go Go.Eng Go.Proofs.Tryz

def asSeq (t : Nat) : SV AA → Option (List (AA t))
  | .rseq _ xs => castL t xs
  | .val (.slice none 0 0) => some []
  | _ => none
theorem asSeq_eqv {t : Nat} {s : SV AA} {xs : List (AA t)} (h : asSeq t s = some xs) : eqv (.rseq t xs) s := by
  unfold asSeq at h
  split at h
  · unfold castL at h
    split at h
    · rename_i e; subst e; cases h; simp [eqv]
    · cases h
  · cases h; simp [eqv]
  · cases h

def L2 : List (Nat × SpecT AA) := (99, tOf oddLS mayGet) :: L1
noncomputable def E2 : Eng AA := EE prog L2

noncomputable def firstOdd : List Br → Nat → Int
  | [], _ => -1
  | b :: l, n => if mayB b = true then firstOdd l (n + 1) else n
noncomputable def indexLS : LS AA where
  X := List Br
  pre := fun _ => True
  args := fun bs => [.rseq 102 bs, .fn (.func 99) .nil .nil]
  hin := fun _ => []
  res := fun bs => [.int .i64 (firstOdd bs 0)]
  hout := fun _ => []
def indexGet : List (SV AA) → Option (List (AA 102))
  | [s, .fn (.func g) .nil .nil] => if g = 99 then asSeq 102 s else none
  | _ => none
def indexAnn (bs : List Br) : Anns AA := fun _ _ _ => some {
  X := Nat
  inv := fun k => k ≤ bs.length ∧ bs.length ≤ 9223372036854775807 ∧ firstOdd bs 0 = firstOdd (bs.drop k) k
  meas := fun k => bs.length - k
  slots := fun k => [(8, .int .i64 k)]
  heap := fun _ => [] }
def L3 : List (Nat × SpecT AA) := (127, tOf indexLS indexGet) :: L2
noncomputable def E3 : Eng AA := EE prog L3

noncomputable def anyLS : LS AA where
  X := List Br
  pre := fun _ => True
  args := fun bs => [.rseq 102 bs, .fn (.func 99) .nil .nil]
  hin := fun _ => []
  res := fun bs => [.sb 0 (decide (firstOdd bs 0 ≥ 0))]
  hout := fun _ => []
def L4 : List (Nat × SpecT AA) := (101, tOf anyLS indexGet) :: L3
noncomputable def E4 : Eng AA := EE prog L4

/-- A condition that may be. -/
def Fine (bs : List Br) : Prop := 1 ≤ bs.length ∧ bs.length ≤ 8 ∧ firstOdd bs 0 < 0
open Classical in
noncomputable def fineB (bs : List Br) : Bool := decide (Fine bs)
noncomputable def checkLS : LS2 AA where
  X := List Br
  c := fineB
  args := fun bs => [.agg (.cell (.rseq 102 bs) .nil)]
  yes := fun _ => [.val .nilIface]
  no := fun _ => [.iface 111 (.int .i64 1)]
def condGet (t : Nat) : List (SV AA) → Option (List (AA t))
  | [.agg (.cell s .nil)] => asSeq t s
  | _ => none
def L5 : List (Nat × SpecT AA) := (53, tIf checkLS (condGet 102)) :: L4
noncomputable def E5 : Eng AA := EE prog L5

def sumK : List Br → Nat
  | [] => 0
  | b :: l => b.keys.length + sumK l
def weight (bs : List Br) : Nat := bs.length + sumK bs
def longLS : LS AA where
  X := List Br
  pre := fun bs => weight bs ≤ 1099511627776
  args := fun bs => [.agg (.cell (.rseq 85 bs) .nil)]
  hin := fun _ => []
  res := fun bs => [.sb 0 (decide (300 < weight bs))]
  hout := fun _ => []
def longAnn (bs : List Br) : Anns AA := fun _ _ _ => some {
  X := Nat
  inv := fun k => k ≤ bs.length ∧ k ≤ 300
  meas := fun k => bs.length - k
  slots := fun k => [(3, .int .i64 (bs.length + sumK (bs.take k) : Nat)), (4, .int .i64 k)]
  heap := fun _ => [] }
def L6 : List (Nat × SpecT AA) := (19, tOf longLS (condGet 85)) :: L5
noncomputable def E6 : Eng AA := EE prog L6

def giveLS : LS AA where
  X := List Br
  pre := fun bs => weight bs ≤ 300
  args := fun bs => [.agg (.cell (.rseq 85 bs) .nil)]
  hin := fun _ => []
  res := fun bs => [.agg (.cell (.rseq 102 bs) .nil)]
  hout := fun _ => []
def giveAnn (bs : List Br) : Anns AA := fun _ _ _ => some {
  X := Nat
  inv := fun k => k ≤ bs.length
  meas := fun k => bs.length - k
  slots := fun k => [(3, .vec 2), (4, .int .i64 k)]
  heap := fun _ => []
  more := fun k => [.svec 102 (show List Br from bs.take k)] }
def L7 : List (Nat × SpecT AA) := (23, tOf giveLS (condGet 85)) :: L6
noncomputable def E7 : Eng AA := EE prog L7

noncomputable def refCheckLS : LS AA where
  X := List Br
  pre := fun bs => bs.length ≤ 9223372036854775807
  args := fun bs => [.agg (.cell (.rseq 85 bs) .nil)]
  hin := fun _ => []
  res := fun bs => [.int .i64 (cond (fineB bs) 0 1)]
  hout := fun _ => []
def lastK (ks : List Int) : Nat → Int
  | 0 => -1
  | k + 1 => ks.getD k 0
def refCheckAnn (bs : List Br) : Anns AA := fun r _ sh => cond (Nat.beq r 5)
  (some {
    X := Nat
    inv := fun k => k ≤ bs.length ∧ firstOdd bs 0 = firstOdd (bs.drop k) k
    meas := fun k => bs.length - k
    slots := fun k => [(3, .int .i64 k)]
    heap := fun _ => [] })
  (match nth sh 1 with
  | some (.cells _ (.cell (.rints _ ks) _)) => some {
    X := Nat
    inv := fun k => k ≤ ks.length ∧ Up ks k
    meas := fun k => ks.length - k
    slots := fun k => [(5, .int .i64 (lastK ks k)), (6, .int .i64 k)]
    heap := fun _ => [] }
  | _ => none)
def L8 : List (Nat × SpecT AA) := (56, tOf refCheckLS (condGet 85)) :: L7
end Go.Proofs.YtcglahfmnoghjaaGreatDoor

/-! Contracts around a condition's check: they hold. Conditions: none. -/
namespace Go.Proofs.YtcglahfmnoghjaaGreatDoor
open Go Go.Eng Go.Proofs.Tryz

def oddVC : Prop := ∀ (x : Br),
  True → True ∧ (!mayB x) = !mayB { keys := x.keys, lock := x.lock, after := x.after, older := x.older } ∧ True ∧ True
theorem odd_eq : oddVC = fnS E1 f99 (bodyOf f99) oddLS noAnn := by kernel_rfl
theorem odd_ok : Fits E1 f99 (bodyOf f99) oddLS noAnn := by
  constructor
  rw [← odd_eq]
  exact fun x _ => ⟨trivial, rfl, trivial, trivial⟩
theorem oddPure : Pure oddLS mayGet where
  hin := fun _ => rfl
  got := mayPure.got
  closed := fun _ => rfl

def indexVC : Prop := ∀ (x : List Br),
  True →
    (↑x.length : Int) ≤ (9223372036854775807 : Int) →
      (∃ x_1,
          (x_1 ≤ x.length ∧
              x.length ≤ (9223372036854775807 : Nat) ∧ firstOdd x (0 : Nat) = firstOdd (List.drop x_1 x) x_1) ∧
            (↑x_1 : Int) = (0 : Int) ∧ True ∧ True) ∧
        ∀ (x_1 : Nat),
          x_1 ≤ x.length ∧
              x.length ≤ (9223372036854775807 : Nat) ∧ firstOdd x (0 : Nat) = firstOdd (List.drop x_1 x) x_1 →
            (decide ((↑x_1 : Int) < (↑x.length : Int)) = true →
                (0 : Int) ≤ (↑x_1 : Int) ∧
                  (↑x_1 : Int) < (↑x.length : Int) ∧
                    ∀ (y : AA (102 : Nat)),
                      x[(↑x_1 : Int).toNat]? = some y →
                        True ∧
                          ((!mayB { keys := y.keys, lock := y.lock, after := y.after, older := y.older }) = true →
                              firstOdd x (0 : Nat) = (↑x_1 : Int) ∧ True ∧ True) ∧
                            ((!mayB { keys := y.keys, lock := y.lock, after := y.after, older := y.older }) = false →
                              inI64 ((↑x_1 : Int) + (1 : Int)) ∧
                                ∃ y,
                                  (y ≤ x.length ∧
                                      x.length ≤ (9223372036854775807 : Nat) ∧
                                        firstOdd x (0 : Nat) = firstOdd (List.drop y x) y) ∧
                                    x.length - y < x.length - x_1 ∧
                                      (↑y : Int) = (↑x_1 : Int) + (1 : Int) ∧ True ∧ True)) ∧
              (decide ((↑x_1 : Int) < (↑x.length : Int)) = false → firstOdd x (0 : Nat) = (-1 : Int) ∧ True ∧ True)
theorem index_eq : indexVC = fnS E2 f127 (bodyOf f127) indexLS indexAnn := by kernel_rfl
theorem index_vc : indexVC := by
  unfold indexVC
  intro bs _ hl
  refine ⟨⟨0, ⟨Nat.zero_le _, by omega, rfl⟩, rfl, trivial, trivial⟩, ?_⟩
  rintro k ⟨hk, hl2, hf⟩
  refine ⟨fun h1 => ?_, fun h1 => ?_⟩
  · simp only [decide_eq_true_eq] at h1
    refine ⟨by omega, by omega, fun y hy => ⟨trivial, fun h2 => ⟨?_, trivial, trivial⟩, fun h2 => ⟨by unfold inI64; omega, k + 1, ⟨by omega, by omega, ?_⟩, by omega, by omega, trivial, trivial⟩⟩⟩
    all_goals
      have hd : bs.drop k = y :: bs.drop (k + 1) := by
        have h3 : k < bs.length := by omega
        rw [List.drop_eq_getElem_cons h3]
        simp only [Int.toNat_natCast] at hy
        rw [List.getElem?_eq_getElem h3] at hy
        cases hy; rfl
    · rw [hf, hd]
      have h4 : mayB y = false := by simpa using h2
      simp [firstOdd, h4]
    · rw [hf, hd]
      have h4 : mayB y = true := by simpa using h2
      simp [firstOdd, h4]
      rfl
  · simp only [decide_eq_false_iff_not] at h1
    refine ⟨?_, trivial, trivial⟩
    rw [hf, List.drop_of_length_le (by omega)]
    rfl
theorem index_ok : Fits E2 f127 (bodyOf f127) indexLS indexAnn := by
  constructor
  rw [← index_eq]
  exact index_vc

def anyVC : Prop := ∀ (x : List Br),
  True → True ∧ decide (firstOdd x (0 : Nat) ≥ (0 : Int)) = decide (firstOdd x (0 : Nat) ≥ (0 : Int)) ∧ True ∧ True
theorem any_eq : anyVC = fnS E3 f101 (bodyOf f101) anyLS noAnn := by kernel_rfl
theorem any_ok : Fits E3 f101 (bodyOf f101) anyLS noAnn := by
  constructor
  rw [← any_eq]
  exact fun x _ => ⟨trivial, rfl, trivial, trivial⟩

theorem fineB_iff {bs : List Br} : fineB bs = true ↔ Fine bs := by simp [fineB]
theorem fineB_not {bs : List Br} : fineB bs = false ↔ ¬ Fine bs := by simp [fineB]

def check1VC : Prop := ∀ (x : List Br),
  fineB x = true →
    (↑x.length : Int) ≤ (9223372036854775807 : Int) →
      (decide ((↑x.length : Int) < (1 : Int)) = true → (SV.val Value.nilIface : SV AA) = SV.iface (111 : TypeId) (SV.lit IntKind.i64 (1 : Int)) ∧ True ∧ True) ∧
        (decide ((↑x.length : Int) < (1 : Int)) = false →
          (↑x.length : Int) ≤ (9223372036854775807 : Int) →
            (decide ((↑x.length : Int) > (8 : Int)) = true → (SV.val Value.nilIface : SV AA) = SV.iface (111 : TypeId) (SV.lit IntKind.i64 (1 : Int)) ∧ True ∧ True) ∧
              (decide ((↑x.length : Int) > (8 : Int)) = false →
                True ∧
                  (decide (firstOdd x (0 : Nat) ≥ (0 : Int)) = true → (SV.val Value.nilIface : SV AA) = SV.iface (111 : TypeId) (SV.lit IntKind.i64 (1 : Int)) ∧ True ∧ True) ∧
                    (decide (firstOdd x (0 : Nat) ≥ (0 : Int)) = false →
                      (SV.val Value.nilIface : SV AA) = SV.val Value.nilIface ∧ True ∧ True)))
theorem check1_eq : check1VC = fnS E4 f53 (bodyOf f53) (checkLS.one true) noAnn := by kernel_rfl
theorem check1_vc : check1VC := by
  intro bs hc hl
  obtain ⟨h1, h2, h3⟩ := fineB_iff.1 hc
  refine ⟨fun h4 => ?_, fun h4 _ => ⟨fun h5 => ?_, fun h5 => ⟨trivial, fun h6 => ?_, fun h6 => ⟨rfl, trivial, trivial⟩⟩⟩⟩
  · simp only [decide_eq_true_eq] at h4; omega
  · simp only [decide_eq_true_eq] at h5; omega
  · simp only [decide_eq_true_eq] at h6; omega
theorem check1_ok : Fits E4 f53 (bodyOf f53) (checkLS.one true) noAnn := by
  constructor
  rw [← check1_eq]
  exact check1_vc
def check0VC : Prop := ∀ (x : List Br),
  fineB x = false →
    (↑x.length : Int) ≤ (9223372036854775807 : Int) →
      (decide ((↑x.length : Int) < (1 : Int)) = true → (1 : Int) = (1 : Int) ∧ True ∧ True) ∧
        (decide ((↑x.length : Int) < (1 : Int)) = false →
          (↑x.length : Int) ≤ (9223372036854775807 : Int) →
            (decide ((↑x.length : Int) > (8 : Int)) = true → (1 : Int) = (1 : Int) ∧ True ∧ True) ∧
              (decide ((↑x.length : Int) > (8 : Int)) = false →
                True ∧
                  (decide (firstOdd x (0 : Nat) ≥ (0 : Int)) = true → (1 : Int) = (1 : Int) ∧ True ∧ True) ∧
                    (decide (firstOdd x (0 : Nat) ≥ (0 : Int)) = false →
                      (SV.iface (111 : TypeId) (SV.int IntKind.i64 (1 : Int)) : SV AA) = SV.val Value.nilIface ∧ True ∧ True)))
theorem check0_eq : check0VC = fnS E4 f53 (bodyOf f53) (checkLS.one false) noAnn := by kernel_rfl
theorem check0_vc : check0VC := by
  intro bs hc hl
  have hn := fineB_not.1 hc
  refine ⟨fun h4 => ⟨rfl, trivial, trivial⟩, fun h4 _ => ⟨fun h5 => ⟨rfl, trivial, trivial⟩, fun h5 => ⟨trivial, fun h6 => ⟨rfl, trivial, trivial⟩, fun h6 => ?_⟩⟩⟩
  exfalso
  simp only [decide_eq_false_iff_not] at h4 h5 h6
  exact hn ⟨by omega, by omega, by omega⟩
theorem check0_ok : Fits E4 f53 (bodyOf f53) (checkLS.one false) noAnn := by
  constructor
  rw [← check0_eq]
  exact check0_vc
end Go.Proofs.YtcglahfmnoghjaaGreatDoor

/-! Contracts around a condition's check: they hold (second). Conditions: none. -/
namespace Go.Proofs.YtcglahfmnoghjaaGreatDoor
open Go Go.Eng Go.Proofs.Tryz

theorem sumK_take_succ : ∀ {bs : List Br} {k : Nat} {y : Br}, bs[k]? = some y → sumK (bs.take (k + 1)) = sumK (bs.take k) + y.keys.length
  | [], k, y, h => by simp at h
  | b :: l, 0, y, h => by simp at h; subst h; simp [sumK]
  | b :: l, k + 1, y, h => by
    have := sumK_take_succ (bs := l) (k := k) (y := y) (by simpa using h)
    simp only [List.take_succ_cons, sumK, this]; omega
theorem sumK_take_le : ∀ (bs : List Br) (k : Nat), sumK (bs.take k) ≤ sumK bs
  | [], k => by simp
  | b :: l, 0 => by simp [sumK]
  | b :: l, k + 1 => by
    have := sumK_take_le l k
    simp only [List.take_succ_cons, sumK]; omega

def longVC : Prop := ∀ (x : List Br),
  (weight x).le (1099511627776 : Nat) →
    (↑x.length : Int) ≤ (9223372036854775807 : Int) →
      (∃ x_1,
          (x_1 ≤ x.length ∧ x_1 ≤ (300 : Nat)) ∧
            ((↑(x.length + sumK (List.take x_1 x)) : Int) = (↑x.length : Int) ∧ (↑x_1 : Int) = (0 : Int)) ∧
              ((x = x ∧ True) ∧ True) ∧ True) ∧
        ∀ (x_1 : Nat),
          x_1 ≤ x.length ∧ x_1 ≤ (300 : Nat) →
            (↑x.length : Int) ≤ (9223372036854775807 : Int) →
              (decide ((↑x_1 : Int) < (↑x.length : Int)) = true →
                  (decide ((↑x_1 : Int) < (300 : Int)) = true →
                      (0 : Int) ≤ (↑x_1 : Int) ∧
                        (↑x_1 : Int) < (↑x.length : Int) ∧
                          ∀ (y : AA (85 : Nat)),
                            x[(↑x_1 : Int).toNat]? = some y →
                              (↑y.keys.length : Int) ≤ (9223372036854775807 : Int) →
                                inI64 ((↑(x.length + sumK (List.take x_1 x)) : Int) + (↑y.keys.length : Int)) ∧
                                  inI64 ((↑x_1 : Int) + (1 : Int)) ∧
                                    ∃ y_1,
                                      (y_1 ≤ x.length ∧ y_1 ≤ (300 : Nat)) ∧
                                        x.length - y_1 < x.length - x_1 ∧
                                          ((↑(x.length + sumK (List.take y_1 x)) : Int) =
                                                (↑(x.length + sumK (List.take x_1 x)) : Int) + (↑y.keys.length : Int) ∧
                                              (↑y_1 : Int) = (↑x_1 : Int) + (1 : Int)) ∧
                                            ((x = x ∧ True) ∧ True) ∧ True) ∧
                    (decide ((↑x_1 : Int) < (300 : Int)) = false →
                      decide ((300 : Nat) < weight x) =
                          decide ((↑(x.length + sumK (List.take x_1 x)) : Int) > (300 : Int)) ∧
                        True ∧ True)) ∧
                (decide ((↑x_1 : Int) < (↑x.length : Int)) = false →
                  decide ((300 : Nat) < weight x) =
                      decide ((↑(x.length + sumK (List.take x_1 x)) : Int) > (300 : Int)) ∧
                    True ∧ True)
theorem long_eq : longVC = fnS E5 f19 (bodyOf f19) longLS longAnn := by kernel_rfl
theorem long_vc : longVC := by
  intro bs hw hl
  have hw : bs.length + sumK bs ≤ 1099511627776 := hw
  refine ⟨⟨0, ⟨Nat.zero_le _, by omega⟩, ⟨by simp [sumK], rfl⟩, ⟨⟨rfl, trivial⟩, trivial⟩, trivial⟩, ?_⟩
  rintro k ⟨hk, hk3⟩ _
  have hle := sumK_take_le bs k
  refine ⟨fun h1 => ⟨fun h2 => ?_, fun h2 => ⟨?_, trivial, trivial⟩⟩, fun h1 => ⟨?_, trivial, trivial⟩⟩
  · simp only [decide_eq_true_eq] at h1 h2
    refine ⟨by omega, by omega, fun y hy hyl => ?_⟩
    have hy' : bs[k]? = some y := by simpa using hy
    have hs := sumK_take_succ hy'
    have hle2 := sumK_take_le bs (k + 1)
    have e : ((bs.length + sumK (bs.take (k + 1)) : Nat) : Int) = ((bs.length + sumK (bs.take k) : Nat) : Int) + (y.keys.length : Int) := by omega
    exact ⟨by unfold inI64; omega, by unfold inI64; omega, k + 1, ⟨by omega, by omega⟩, by omega, ⟨e, by omega⟩, ⟨⟨rfl, trivial⟩, trivial⟩, trivial⟩
  · simp only [decide_eq_true_eq, decide_eq_false_iff_not] at h1 h2
    congr 1
    apply propext
    unfold weight
    omega
  · simp only [decide_eq_false_iff_not] at h1
    congr 1
    apply propext
    unfold weight
    have : bs.take k = bs := List.take_of_length_le (by omega)
    rw [this]
    omega
theorem long_ok : Fits E5 f19 (bodyOf f19) longLS longAnn := by
  constructor
  rw [← long_eq]
  exact long_vc

theorem len_weight {bs : List Br} {k : Nat} {y : Br} (h : bs[k]? = some y) : y.keys.length ≤ sumK bs := by
  have h1 := sumK_take_succ h
  have h2 := sumK_take_le bs (k + 1)
  omega
def giveVC : Prop := ∀ (x : List Br),
  (weight x).le (300 : Nat) →
    (∃ x_1,
        Nat.le x_1 x.length ∧
          ((SV.val (Value.slice none (0 : Nat) (0 : Nat)) : SV AA) = SV.val (Value.slice none (0 : Nat) (0 : Nat)) ∧
              (↑x_1 : Int) = (0 : Int)) ∧
            ((x = x ∧ True) ∧
                ((SV.val (Value.slice none (0 : Nat) (0 : Nat)) : SV AA) = SV.val (Value.slice none (0 : Nat) (0 : Nat)) ∧ True) ∧
                  True) ∧
              List.take x_1 x = [] ∧ True) ∧
      ∀ (x_1 : Nat),
        x_1.le x.length →
          (↑x.length : Int) ≤ (9223372036854775807 : Int) →
            (decide ((↑x_1 : Int) < (↑x.length : Int)) = true →
                (0 : Int) ≤ (↑x_1 : Int) ∧
                  (↑x_1 : Int) < (↑x.length : Int) ∧
                    ∀ (y : AA (85 : Nat)),
                      x[(↑x_1 : Int).toNat]? = some y →
                        (0 : Int) ≤ (↑x_1 : Int) ∧
                          (↑x_1 : Int) < (↑x.length : Int) ∧
                            ∀ (y_1 : AA (85 : Nat)),
                              x[(↑x_1 : Int).toNat]? = some y_1 →
                                y_1.keys.length * (8 : Nat) ≤ (140737488355328 : Nat) ∧
                                  y_1.keys.length ≤ (1152921504606846976 : Nat) ∧
                                    (y_1.keys = y_1.keys ∧
                                        y.lock = y.lock ∧ y.after = y.after ∧ y.older = y.older ∧ True) ∧
                                      ((List.take x_1 x).length + [Br.mk y_1.keys y.lock y.after y.older].length) *
                                            (72 : Nat) ≤
                                          (140737488355328 : Nat) ∧
                                        (List.take x_1 x).length + [Br.mk y_1.keys y.lock y.after y.older].length ≤
                                            (1152921504606846976 : Nat) ∧
                                          inI64 ((↑x_1 : Int) + (1 : Int)) ∧
                                            ∃ y_2,
                                              Nat.le y_2 x.length ∧
                                                x.length - y_2 < x.length - x_1 ∧
                                                  (True ∧ (↑y_2 : Int) = (↑x_1 : Int) + (1 : Int)) ∧
                                                    ((x = x ∧ True) ∧
                                                        ((SV.val (Value.slice none (0 : Nat) (0 : Nat)) : SV AA) =
                                                              SV.val (Value.slice none (0 : Nat) (0 : Nat)) ∧
                                                            True) ∧
                                                          True) ∧
                                                      List.take y_2 x =
                                                          List.take x_1 x ++ [Br.mk y_1.keys y.lock y.after y.older] ∧
                                                        True) ∧
              (decide ((↑x_1 : Int) < (↑x.length : Int)) = false → (x = List.take x_1 x ∧ True) ∧ True ∧ True)
theorem give_eq : giveVC = fnS E6 f23 (bodyOf f23) giveLS giveAnn := by kernel_rfl
theorem give_vc : giveVC := by
  intro bs hw
  have hw : bs.length + sumK bs ≤ 300 := hw
  refine ⟨⟨0, Nat.zero_le _, ⟨rfl, rfl⟩, ⟨⟨rfl, trivial⟩, ⟨rfl, trivial⟩, trivial⟩, rfl, trivial⟩, ?_⟩
  intro k hk hl
  have hk : k ≤ bs.length := hk
  refine ⟨fun h1 => ?_, fun h1 => ?_⟩
  · simp only [decide_eq_true_eq] at h1
    refine ⟨by omega, by omega, fun y hy => ⟨by omega, by omega, fun y' hy' => ?_⟩⟩
    have hyy : y = y' := by rw [hy] at hy'; exact Option.some.inj hy'
    subst hyy
    change Br at y
    have hy2 : bs[k]? = some y := by
      have h0 := hy
      rw [Int.toNat_natCast] at h0
      exact h0
    have hkl := len_weight hy2
    have htl : (bs.take k).length = k := by rw [List.length_take]; omega
    have hlen : ∀ z : Br, ((bs.take k).length + [z].length) = k + 1 := fun z => by rw [htl]; rfl
    have h8 : y.keys.length ≤ 300 := by omega
    have hk300 : k < 300 := by omega
    have hcat : bs.take (k + 1) = bs.take k ++ [show Br from y] := by
      rw [List.take_add_one, hy2]; rfl
    refine ⟨by omega, by omega, ⟨rfl, rfl, rfl, rfl, trivial⟩, ?_, ?_, by unfold inI64; omega, k + 1, Nat.succ_le_of_lt (by omega), by omega, ⟨trivial, by omega⟩, ⟨⟨rfl, trivial⟩, ⟨rfl, trivial⟩, trivial⟩, hcat, trivial⟩
    · exact Nat.le_trans (Nat.mul_le_mul_right 72 (Nat.le_of_eq (hlen _))) (by omega)
    · exact Nat.le_trans (Nat.le_of_eq (hlen _)) (by omega)
  · simp only [decide_eq_false_iff_not] at h1
    exact ⟨⟨(List.take_of_length_le (by omega)).symm, trivial⟩, trivial, trivial⟩
theorem give_ok : Fits E6 f23 (bodyOf f23) giveLS giveAnn := by
  constructor
  rw [← give_eq]
  exact give_vc
end Go.Proofs.YtcglahfmnoghjaaGreatDoor

/-! The table of contracts, in a row. Conditions: none. -/
namespace Go.Proofs.YtcglahfmnoghjaaGreatDoor
open Go Go.Eng Go.Proofs.Tryz

theorem f43_is : prog.funcs[99]? = some f99 := by kernel_rfl
theorem f43_body : f99.body = some (bodyOf f99) := by kernel_rfl
theorem f43_name : (f99.name == "runtime.NumGoroutine") = false := by kernel_rfl
theorem E1_eq : E1 = EE prog L1 := by
  unfold E1
  rfl
theorem known2 : Known prog L2 := by
  unfold L2
  exact Known.more known1 mixed f43_is f43_name f43_body E1_eq odd_ok oddPure

theorem f86_is : prog.funcs[127]? = some f127 := by kernel_rfl
theorem f86_body : f127.body = some (bodyOf f127) := by kernel_rfl
theorem f86_name : (f127.name == "runtime.NumGoroutine") = false := by kernel_rfl
theorem E2_eq : E2 = EE prog L2 := by
  unfold E2
  rfl
theorem indexGot : ∀ (args : List (SV AA)) (x : List (AA 102)), indexGet args = some x → eqva [.rseq 102 x, .fn (.func 99) .nil .nil] args := by
  intro args x h
  unfold indexGet at h
  split at h
  · split at h
    · rename_i e; subst e
      exact ⟨asSeq_eqv h, by simp [eqv, eqvL], trivial⟩
    · cases h
  · cases h
theorem indexPure : Pure indexLS indexGet where
  hin := fun _ => rfl
  got := fun args x h => indexGot args x h
  closed := fun _ => rfl
theorem known3 : Known prog L3 := by
  unfold L3
  exact Known.more known2 mixed f86_is f86_name f86_body E2_eq index_ok indexPure

theorem f45_is : prog.funcs[101]? = some f101 := by kernel_rfl
theorem f45_body : f101.body = some (bodyOf f101) := by kernel_rfl
theorem f45_name : (f101.name == "runtime.NumGoroutine") = false := by kernel_rfl
theorem E3_eq : E3 = EE prog L3 := by
  unfold E3
  rfl
theorem anyPure : Pure anyLS indexGet where
  hin := fun _ => rfl
  got := fun args x h => indexGot args x h
  closed := fun _ => rfl
theorem known4 : Known prog L4 := by
  unfold L4
  exact Known.more known3 mixed f45_is f45_name f45_body E3_eq any_ok anyPure

theorem condGot (t : Nat) : ∀ (args : List (SV AA)) (x : List (AA t)), condGet t args = some x → eqva [.agg (.cell (.rseq t x) .nil)] args := by
  intro args x h
  unfold condGet at h
  split at h
  · refine ⟨?_, trivial⟩
    simp only [eqv, eqvL]
    exact ⟨asSeq_eqv h, trivial⟩
  · cases h
theorem f16_is : prog.funcs[53]? = some f53 := by kernel_rfl
theorem f16_body : f53.body = some (bodyOf f53) := by kernel_rfl
theorem f16_name : (f53.name == "runtime.NumGoroutine") = false := by kernel_rfl
theorem E4_eq : E4 = EE prog L4 := by
  unfold E4
  rfl
theorem known5 : Known prog L5 := by
  unfold L5
  exact Known.more2 known4 mixed f16_is f16_name f16_body E4_eq check1_ok check0_ok (fun args x h => condGot 102 args x h) (fun _ => rfl)

theorem f13_is : prog.funcs[19]? = some f19 := by kernel_rfl
theorem f13_body : f19.body = some (bodyOf f19) := by kernel_rfl
theorem f13_name : (f19.name == "runtime.NumGoroutine") = false := by kernel_rfl
theorem E5_eq : E5 = EE prog L5 := by
  unfold E5
  rfl
theorem longPure : Pure longLS (condGet 85) where
  hin := fun _ => rfl
  got := fun args x h => condGot 85 args x h
  closed := fun _ => rfl
theorem known6 : Known prog L6 := by
  unfold L6
  exact Known.more known5 mixed f13_is f13_name f13_body E5_eq long_ok longPure

theorem f17_is : prog.funcs[23]? = some f23 := by kernel_rfl
theorem f17_body : f23.body = some (bodyOf f23) := by kernel_rfl
theorem f17_name : (f23.name == "runtime.NumGoroutine") = false := by kernel_rfl
theorem E6_eq : E6 = EE prog L6 := by
  unfold E6
  rfl
theorem givePure : Pure giveLS (condGet 85) where
  hin := fun _ => rfl
  got := fun args x h => condGot 85 args x h
  closed := fun _ => rfl
theorem known7 : Known prog L7 := by
  unfold L7
  exact Known.more known6 mixed f17_is f17_name f17_body E6_eq give_ok givePure
end Go.Proofs.YtcglahfmnoghjaaGreatDoor

/-! The document's check of a condition. Conditions: none. -/
namespace Go.Proofs.YtcglahfmnoghjaaGreatDoor
open Go Go.Eng Go.Proofs.Tryz

theorem firstOdd_at {bs : List Br} {k : Nat} {y : Br} (hy : bs[k]? = some y) : bs.drop k = y :: bs.drop (k + 1) := by
  have h3 : k < bs.length := (List.getElem?_eq_some_iff.1 hy).1
  rw [List.drop_eq_getElem_cons h3]
  rw [List.getElem?_eq_getElem h3] at hy
  cases hy; rfl
theorem bad_at {bs : List Br} {k : Nat} {y : Br} (hf : firstOdd bs 0 = firstOdd (bs.drop k) k) (hy : bs[k]? = some y) (hm : ¬ May y) : (bif fineB bs then (0 : Int) else 1) = 1 := by
  have h1 : fineB bs = false := fineB_not.2 fun hF => by
    have h2 := hF.2.2
    rw [hf, firstOdd_at hy] at h2
    simp only [firstOdd, mayB_false hm] at h2
    simp at h2
    omega
  rw [h1]; rfl
theorem good_at {bs : List Br} {k : Nat} {y : Br} (hf : firstOdd bs 0 = firstOdd (bs.drop k) k) (hy : bs[k]? = some y) (hm : May y) : firstOdd bs 0 = firstOdd (bs.drop (k + 1)) (k + 1) := by
  rw [hf, firstOdd_at hy]
  simp [firstOdd, mayB_true hm]

def refCheckVC : Prop := ∀ (x : List Br),
  x.length.le (9223372036854775807 : Nat) →
    (↑x.length : Int) ≤ (9223372036854775807 : Int) →
      (decide ((↑x.length : Int) < (1 : Int)) = true →
          (bif fineB x then (0 : Int) else (1 : Int)) = (1 : Int) ∧ True ∧ True) ∧
        (decide ((↑x.length : Int) < (1 : Int)) = false →
          (↑x.length : Int) ≤ (9223372036854775807 : Int) →
            (decide ((↑x.length : Int) > (8 : Int)) = true →
                (bif fineB x then (0 : Int) else (1 : Int)) = (1 : Int) ∧ True ∧ True) ∧
              (decide ((↑x.length : Int) > (8 : Int)) = false →
                (∃ x_1,
                    (x_1 ≤ x.length ∧ firstOdd x (0 : Nat) = firstOdd (List.drop x_1 x) x_1) ∧
                      (↑x_1 : Int) = (0 : Int) ∧ ((x = x ∧ True) ∧ True) ∧ True) ∧
                  ∀ (x_1 : Nat),
                    x_1 ≤ x.length ∧ firstOdd x (0 : Nat) = firstOdd (List.drop x_1 x) x_1 →
                      (↑x.length : Int) ≤ (9223372036854775807 : Int) →
                        (decide ((↑x_1 : Int) < (↑x.length : Int)) = true →
                            (0 : Int) ≤ (↑x_1 : Int) ∧
                              (↑x_1 : Int) < (↑x.length : Int) ∧
                                ∀ (y : AA (85 : Nat)),
                                  x[(↑x_1 : Int).toNat]? = some y →
                                    (↑y.keys.length : Int) ≤ (9223372036854775807 : Int) →
                                      (decide ((↑y.keys.length : Int) < (1 : Int)) = true →
                                          (bif fineB x then (0 : Int) else (1 : Int)) = (1 : Int) ∧ True ∧ True) ∧
                                        (decide ((↑y.keys.length : Int) < (1 : Int)) = false →
                                          (decide (y.after < (0 : Int)) = true →
                                              (bif fineB x then (0 : Int) else (1 : Int)) = (1 : Int) ∧ True ∧ True) ∧
                                            (decide (y.after < (0 : Int)) = false →
                                              (decide (y.after > (1099511627776 : Int)) = true →
                                                  (bif fineB x then (0 : Int) else (1 : Int)) = (1 : Int) ∧
                                                    True ∧ True) ∧
                                                (decide (y.after > (1099511627776 : Int)) = false →
                                                  (decide (y.older < (0 : Int)) = true →
                                                      (bif fineB x then (0 : Int) else (1 : Int)) = (1 : Int) ∧
                                                        True ∧ True) ∧
                                                    (decide (y.older < (0 : Int)) = false →
                                                      (decide (y.older > (65536 : Int)) = true →
                                                          (bif fineB x then (0 : Int) else (1 : Int)) = (1 : Int) ∧
                                                            True ∧ True) ∧
                                                        (decide (y.older > (65536 : Int)) = false →
                                                          (∃ x_2,
                                                              (x_2 ≤ y.keys.length ∧ Up y.keys x_2) ∧
                                                                (lastK y.keys x_2 = (-1 : Int) ∧
                                                                    (↑x_2 : Int) = (0 : Int)) ∧
                                                                  ((x = x ∧ True) ∧
                                                                      (y.keys = y.keys ∧
                                                                          y.lock = y.lock ∧
                                                                            y.after = y.after ∧
                                                                              y.older = y.older ∧ True) ∧
                                                                        True) ∧
                                                                    True) ∧
                                                            ∀ (x_2 : Nat),
                                                              x_2 ≤ y.keys.length ∧ Up y.keys x_2 →
                                                                (↑y.keys.length : Int) ≤ (9223372036854775807 : Int) →
                                                                  (decide ((↑x_2 : Int) < (↑y.keys.length : Int)) =
                                                                        true →
                                                                      (0 : Int) ≤ (↑x_2 : Int) ∧
                                                                        (↑x_2 : Int) < (↑y.keys.length : Int) ∧
                                                                          (↑x_2 : Int).toNat < y.keys.length ∧
                                                                            (decide
                                                                                    (y.keys.getD (↑x_2 : Int).toNat
                                                                                        (0 : Int) ≤
                                                                                      lastK y.keys x_2) =
                                                                                  true →
                                                                                (bif fineB x then (0 : Int)
                                                                                    else (1 : Int)) =
                                                                                    (1 : Int) ∧
                                                                                  True ∧ True) ∧
                                                                              (decide
                                                                                    (y.keys.getD (↑x_2 : Int).toNat
                                                                                        (0 : Int) ≤
                                                                                      lastK y.keys x_2) =
                                                                                  false →
                                                                                (0 : Int) ≤ (↑x_2 : Int) ∧
                                                                                  (↑x_2 : Int) <
                                                                                      (↑y.keys.length : Int) ∧
                                                                                    (↑x_2 : Int).toNat < y.keys.length ∧
                                                                                      (decide
                                                                                              (y.keys.getD
                                                                                                  (↑x_2 : Int).toNat
                                                                                                  (0 : Int) >
                                                                                                (15 : Int)) =
                                                                                            true →
                                                                                          (bif fineB x then (0 : Int)
                                                                                              else (1 : Int)) =
                                                                                              (1 : Int) ∧
                                                                                            True ∧ True) ∧
                                                                                        (decide
                                                                                              (y.keys.getD
                                                                                                  (↑x_2 : Int).toNat
                                                                                                  (0 : Int) >
                                                                                                (15 : Int)) =
                                                                                            false →
                                                                                          (0 : Int) ≤ (↑x_2 : Int) ∧
                                                                                            (↑x_2 : Int) <
                                                                                                (↑y.keys.length : Int) ∧
                                                                                              (↑x_2 : Int).toNat <
                                                                                                  y.keys.length ∧
                                                                                                inI64
                                                                                                    ((↑x_2 : Int) +
                                                                                                      (1 : Int)) ∧
                                                                                                  ∃ y_1,
                                                                                                    (y_1 ≤
                                                                                                          y.keys.length ∧
                                                                                                        Up y.keys y_1) ∧
                                                                                                      y.keys.length -
                                                                                                            y_1 <
                                                                                                          y.keys.length -
                                                                                                            x_2 ∧
                                                                                                        (lastK y.keys
                                                                                                                y_1 =
                                                                                                              y.keys.getD
                                                                                                                (↑x_2 :
                                                                                                                    Int).toNat
                                                                                                                (0 :
                                                                                                                  Int) ∧
                                                                                                            (↑y_1 :
                                                                                                                Int) =
                                                                                                              (↑x_2 :
                                                                                                                  Int) +
                                                                                                                (1 :
                                                                                                                  Int)) ∧
                                                                                                          ((x = x ∧
                                                                                                                True) ∧
                                                                                                              (y.keys =
                                                                                                                    y.keys ∧
                                                                                                                  y.lock =
                                                                                                                      y.lock ∧
                                                                                                                    y.after =
                                                                                                                        y.after ∧
                                                                                                                      y.older =
                                                                                                                          y.older ∧
                                                                                                                        True) ∧
                                                                                                                True) ∧
                                                                                                            True))) ∧
                                                                    (decide ((↑x_2 : Int) < (↑y.keys.length : Int)) =
                                                                        false →
                                                                      inI64 ((↑x_1 : Int) + (1 : Int)) ∧
                                                                        ∃ y,
                                                                          (y ≤ x.length ∧
                                                                              firstOdd x (0 : Nat) =
                                                                                firstOdd (List.drop y x) y) ∧
                                                                            x.length - y < x.length - x_1 ∧
                                                                              (↑y : Int) = (↑x_1 : Int) + (1 : Int) ∧
                                                                                ((x = x ∧ True) ∧ True) ∧ True))))))) ∧
                          (decide ((↑x_1 : Int) < (↑x.length : Int)) = false →
                            (bif fineB x then (0 : Int) else (1 : Int)) = (0 : Int) ∧ True ∧ True)))
theorem refCheck_eq : refCheckVC = fnS E7 f56 (bodyOf f56) refCheckLS refCheckAnn := by kernel_rfl
theorem refCheck_vc : refCheckVC := by
  intro bs _ hl
  have small : (¬ (1 ≤ bs.length ∧ bs.length ≤ 8)) → (bif fineB bs then (0 : Int) else 1) = 1 := fun h => by
    have h1 : fineB bs = false := fineB_not.2 fun hF => h ⟨hF.1, hF.2.1⟩
    rw [h1]; rfl
  refine ⟨fun h1 => ⟨small ?_, trivial, trivial⟩, fun h1 _ => ⟨fun h2 => ⟨small ?_, trivial, trivial⟩, fun h2 => ⟨⟨0, ⟨Nat.zero_le _, rfl⟩, rfl, ⟨⟨rfl, trivial⟩, trivial⟩, trivial⟩, ?_⟩⟩⟩
  · simp only [decide_eq_true_eq] at h1; omega
  · simp only [decide_eq_true_eq] at h2; omega
  rintro k ⟨hk, hf⟩ _
  simp only [decide_eq_false_iff_not] at h1 h2
  refine ⟨fun h3 => ?_, fun h3 => ⟨?_, trivial, trivial⟩⟩
  · simp only [decide_eq_true_eq] at h3
    refine ⟨by omega, by omega, fun y hy hyl => ?_⟩
    change Br at y
    have hy2 : bs[k]? = some y := by
      have h0 := hy
      rw [Int.toNat_natCast] at h0
      exact h0
    have bad : ¬ May y → (bif fineB bs then (0 : Int) else 1) = 1 := bad_at hf hy2
    refine ⟨fun h4 => ⟨bad fun hm => ?_, trivial, trivial⟩, fun h4 => ⟨fun h5 => ⟨bad fun hm => ?_, trivial, trivial⟩, fun h5 => ⟨fun h6 => ⟨bad fun hm => ?_, trivial, trivial⟩, fun h6 => ⟨fun h7 => ⟨bad fun hm => ?_, trivial, trivial⟩, fun h7 => ⟨fun h8 => ⟨bad fun hm => ?_, trivial, trivial⟩, fun h8 => ?_⟩⟩⟩⟩⟩
    · simp only [decide_eq_true_eq] at h4; have := hm.2.1; omega
    · simp only [decide_eq_true_eq] at h5; have := hm.2.2.1; omega
    · simp only [decide_eq_true_eq] at h6; have := hm.2.2.2.1; omega
    · simp only [decide_eq_true_eq] at h7; have := hm.2.2.2.2.1; omega
    · simp only [decide_eq_true_eq] at h8; have := hm.2.2.2.2.2; omega
    simp only [decide_eq_false_iff_not] at h4 h5 h6 h7 h8
    refine ⟨⟨0, ⟨Nat.zero_le _, up_zero _⟩, ⟨rfl, rfl⟩, ⟨⟨rfl, trivial⟩, ⟨rfl, rfl, rfl, rfl, trivial⟩, trivial⟩, trivial⟩, ?_⟩
    rintro j ⟨hj, hup⟩ _
    refine ⟨fun h9 => ?_, fun h9 => ?_⟩
    · simp only [decide_eq_true_eq] at h9
      refine ⟨by omega, by omega, by omega, fun h10 => ⟨bad fun hm => ?_, trivial, trivial⟩, fun h10 => ⟨by omega, by omega, by omega, fun h11 => ⟨bad fun hm => ?_, trivial, trivial⟩, fun h11 => ⟨by omega, by omega, by omega, by unfold inI64; omega, j + 1, ⟨by omega, ?_⟩, by omega, ⟨?_, by omega⟩, ⟨⟨rfl, trivial⟩, ⟨rfl, rfl, rfl, rfl, trivial⟩, trivial⟩, trivial⟩⟩⟩
      · simp only [decide_eq_true_eq, Int.toNat_natCast] at h10
        have h12 := hm.1 j (by omega)
        cases j with
        | zero => simp only [lastK] at h10; omega
        | succ i =>
          simp only [lastK] at h10
          have h13 := h12.2.2
          simp only [Nat.add_sub_cancel] at h13
          omega
      · simp only [decide_eq_true_eq, Int.toNat_natCast] at h11
        have h12 := hm.1 j (by omega)
        omega
      · simp only [decide_eq_false_iff_not, Int.toNat_natCast] at h10 h11
        cases j with
        | zero =>
          simp only [lastK] at h10
          exact up_succ hup (by omega) (by omega) (.inl rfl)
        | succ i =>
          simp only [lastK] at h10
          have h13 := (hup i (by omega)).1
          exact up_succ hup (by omega) (by omega) (.inr (by simp only [Nat.add_sub_cancel]; omega))
      · simp only [Int.toNat_natCast]; rfl
    · simp only [decide_eq_false_iff_not] at h9
      have hjl : j = y.keys.length := by omega
      subst hjl
      have hm : May y := ⟨hup, by omega, by omega, by omega, by omega, by omega⟩
      exact ⟨by unfold inI64; omega, k + 1, ⟨by omega, good_at hf hy2 hm⟩, by omega, by omega, ⟨⟨rfl, trivial⟩, trivial⟩, trivial⟩
  · simp only [decide_eq_false_iff_not] at h3
    have hF : fineB bs = true := fineB_iff.2 ⟨by omega, by omega, by
      rw [hf, List.drop_of_length_le (by omega)]
      simp [firstOdd]⟩
    rw [hF]; rfl
theorem refCheck_ok : Fits E7 f56 (bodyOf f56) refCheckLS refCheckAnn := by
  constructor
  rw [← refCheck_eq]
  exact refCheck_vc

theorem f18_is : prog.funcs[56]? = some f56 := by kernel_rfl
theorem f18_body : f56.body = some (bodyOf f56) := by kernel_rfl
theorem f18_name : (f56.name == "runtime.NumGoroutine") = false := by kernel_rfl
theorem E7_eq : E7 = EE prog L7 := by
  unfold E7
  rfl
theorem refCheckPure : Pure refCheckLS (condGet 85) where
  hin := fun _ => rfl
  got := fun args x h => condGot 85 args x h
  closed := fun _ => rfl
theorem known8 : Known prog L8 := by
  unfold L8
  exact Known.more known7 mixed f18_is f18_name f18_body E7_eq refCheck_ok refCheckPure
end Go.Proofs.YtcglahfmnoghjaaGreatDoor

/-! errors.As at this program's error numbers. Conditions: the variable errors.errorType holds what its row says. Began as the kit's worked example 'ToyasAs', turned to this program's types. -/
namespace Go.Proofs.YtcglahfmnoghjaaGreatDoor
open Go.RowKit Go.Extern.Stop Go.Stop Go.Extern

/-- errors.As(nil, target). -/
theorem as_nil (t : Value) (w : World) :
    Calls Tryz.prog 65 #[.nilIface, t] w fun e w' => e = .returned (.bool false) ∧ w' = w := by
  go_enter Tryz.func65, Tryz.ntmps65
  go_wp2
  go_ret
  exact ⟨rfl, rfl⟩

/-! ### CLOSED FACTS ON THE MODEL's ENTRIES FOR internal/reflectlite, at this program's types: 25: *p.E · 27: **p.E · 23: error · 45: reflectlite's rtype · 1: how many package-level variables the dump has -/
theorem TT_valueOf27 (t : Addr) (w : World) : (ReflectliteValue.unpack (.iface 128 (.pointer (some t)))).run Tryz.prog w
    = .ok (.agg #[.pointer (some ⟨3, 128, none⟩), .pointer (some ⟨w.heap.size, 0, none⟩), .int .u64 150]) (w.alloc (.cells #[.pointer (some t)] 128)) := by kernel_rfl
theorem TT_type27 (a : Addr) (w : World) : (ReflectliteValue.methodAny (ReflectliteValue.valueError "reflectlite.Value.Type" 0) (fun t _ _ _ => ReflectliteType.toType t) #[.agg #[.pointer (some ⟨3, 128, none⟩), .pointer (some a), .int .u64 150]]).run Tryz.prog w
    = .ok (.iface 209 (.agg #[.pointer (some ⟨3, 128, none⟩)])) w := by kernel_rfl
theorem TT_methodKind (h : Value) (w : World) : (Go.method 382 209 (.agg #[h]) "Kind").run Tryz.prog w = .ok (169, h) w := by kernel_rfl
theorem TT_kind27 (w : World) : ((ReflectliteType.abiMethod fun t => (fun a : Nat => Value.int IntKind.u8 (a : Int)) <$> Rtype.kind t) #[.pointer (some ⟨3, 128, none⟩)]).run Tryz.prog w = .ok (.int .u8 22) w := by kernel_rfl
theorem TT_kind25 (w : World) : ((ReflectliteType.abiMethod fun t => (fun a : Nat => Value.int IntKind.u8 (a : Int)) <$> Rtype.kind t) #[.pointer (some ⟨3, 111, none⟩)]).run Tryz.prog w = .ok (.int .u8 2) w := by kernel_rfl

/-! ### THE ENTRIES THAT READ OR WRITE MEMORY: laws with a premise on the cell (after Derived/Lib/ReflectliteSlice.lean's manner: each unfolding a lemma of its own, by rfl) -/
theorem rlm (z : Sem Value) (f : TypeId → Addr → Nat → Nat → Sem Value) (v : Value) :
    ReflectliteValue.method z f #[v] = (do match ← ReflectliteValue.parts v with | none => z | some (t, a, fl) => f t a fl (fl % 32)) := rfl
theorem TT_parts27 (a : Addr) (w : World) : (ReflectliteValue.parts (.agg #[.pointer (some ⟨3, 128, none⟩), .pointer (some a), .int .u64 150])).run Tryz.prog w = .ok (some (128, a, 150)) w := by kernel_rfl
/-- (Value).IsNil at the Value of a **p.E that is not nil. -/
theorem TT_isNil27 (a p : Addr) (W : World) (ha : W.cell? a = some (.pointer (some p))) :
    (ReflectliteValue.method (ReflectliteValue.valueError "reflectlite.Value.IsNil" 0) ReflectliteValue.isNil #[.agg #[.pointer (some ⟨3, 128, none⟩), .pointer (some a), .int .u64 150]]).run Tryz.prog W = .ok (.bool false) W := by
  rw [rlm]
  simp only [Sem.run_bind, TT_parts27, Result.andThen]
  simp [ReflectliteValue.isNil, loadVar, isAgg, underlying, Tryz.underlying128, ha, Result.andThen]

theorem TT_methodElem (h : Value) (w : World) : (Go.method 382 209 (.agg #[h]) "Elem").run Tryz.prog w = .ok (181, .agg #[h]) w := by kernel_rfl
theorem TT_methodImplements (h : Value) (w : World) : (Go.method 382 209 (.agg #[h]) "Implements").run Tryz.prog w = .ok (182, .agg #[h]) w := by kernel_rfl
theorem TT_methodAssignableTo (h : Value) (w : World) : (Go.method 382 209 (.agg #[h]) "AssignableTo").run Tryz.prog w = .ok (179, .agg #[h]) w := by kernel_rfl
theorem TT_elem27 (w : World) : (ReflectliteType.method ReflectliteType.elem #[.agg #[.pointer (some ⟨3, 128, none⟩)]]).run Tryz.prog w = .ok (.iface 209 (.agg #[.pointer (some ⟨3, 111, none⟩)])) w := by kernel_rfl
theorem TT_implements25 (w : World) : (ReflectliteType.relation "Implements" ReflectliteType.implements_ #[.agg #[.pointer (some ⟨3, 111, none⟩)], .iface 209 (.agg #[.pointer (some ⟨3, 57, none⟩)])]).run Tryz.prog w = .ok (.bool true) w := by kernel_rfl
theorem TT_typeOf25 (v : Value) (w : World) : (ReflectliteType.typeOf #[.iface 111 v]).run Tryz.prog w = .ok (.iface 209 (.agg #[.pointer (some ⟨3, 111, none⟩)])) w := by kernel_rfl
theorem TT_assignable25 (w : World) : (ReflectliteType.relation "AssignableTo" ReflectliteType.assignableTo #[.agg #[.pointer (some ⟨3, 111, none⟩)], .iface 209 (.agg #[.pointer (some ⟨3, 111, none⟩)])]).run Tryz.prog w = .ok (.bool true) w := by kernel_rfl
theorem TT_valueOf25 (n : Int) (w : World) : (ReflectliteValue.unpack (.iface 111 (.int .i64 n))).run Tryz.prog w
    = .ok (.agg #[.pointer (some ⟨3, 111, none⟩), .pointer (some ⟨w.heap.size, 0, none⟩), .int .u64 130]) (w.alloc (.cells #[.int .i64 n] 111)) := by kernel_rfl

theorem TT_elemOf27 (w : World) : (Rtype.elem? 128).run Tryz.prog w = .ok (some 111) w := by kernel_rfl
theorem TT_mk25 (p : Addr) (w : World) : (ReflectliteValue.mk 111 p ReflectliteValue.flagAddr).run Tryz.prog w = .ok (.agg #[.pointer (some ⟨3, 111, none⟩), .pointer (some p), .int .u64 386]) w := by kernel_rfl
/-- (Value).Elem at the Value of a **p.E that is not nil: the Value of the *p.E variable that it points to, addressable. -/
theorem TT_elemV27 (a p : Addr) (W : World) (ha : W.cell? a = some (.pointer (some p))) :
    (ReflectliteValue.method (ReflectliteValue.valueError "reflectlite.Value.Elem" 0) ReflectliteValue.elem #[.agg #[.pointer (some ⟨3, 128, none⟩), .pointer (some a), .int .u64 150]]).run Tryz.prog W
      = .ok (.agg #[.pointer (some ⟨3, 111, none⟩), .pointer (some p), .int .u64 386]) W := by
  rw [rlm]
  simp only [Sem.run_bind, TT_parts27, Result.andThen]
  simp [ReflectliteValue.elem, loadVar, isAgg, underlying, Tryz.underlying128, ha, Result.andThen, TT_elemOf27, TT_mk25]
theorem rls (v x : Value) : ReflectliteValue.set #[v, x] = (do
    let (some (dst, a, fl), some (src, b, _)) := (← ReflectliteValue.parts v, ← ReflectliteValue.parts x)
      | unsupported (.noEntry "extern/(internal/reflectlite.Value).Set.zeroValue")
    if fl / ReflectliteValue.flagAddr % 2 == 0 then unsupported (.noEntry "extern/(internal/reflectlite.Value).Set.unaddressable")
    let val ← loadVar src b
    if ← Rtype.directlyAssignable dst src then storeVar dst a val
    else if ← Rtype.implements dst src then
      if (← Rtype.kind src) == 20 then
        match val with
        | .nilIface => unsupported (.noEntry "extern/reflectlite: a nil value of one interface type handed on as a value of another")
        | _ => storeVar dst a val
      else storeVar dst a (.iface src val)
    else panicString ("reflectlite.Set: value of type " ++ (← Rtype.spelt src) ++ " is not assignable to type " ++ (← Rtype.spelt dst))
    pure (.tuple #[])) := rfl
theorem TT_parts25a (a : Addr) (w : World) : (ReflectliteValue.parts (.agg #[.pointer (some ⟨3, 111, none⟩), .pointer (some a), .int .u64 386])).run Tryz.prog w = .ok (some (111, a, 386)) w := by kernel_rfl
theorem TT_parts25 (a : Addr) (w : World) : (ReflectliteValue.parts (.agg #[.pointer (some ⟨3, 111, none⟩), .pointer (some a), .int .u64 130])).run Tryz.prog w = .ok (some (111, a, 130)) w := by kernel_rfl
theorem TT_direct25 (w : World) : (Rtype.directlyAssignable 111 111).run Tryz.prog w = .ok true w := by kernel_rfl
theorem TT_size25 (w : World) : (sizeOf 111).run Tryz.prog w = .ok 1 w := by kernel_rfl
/-- (Value).Set: the *p.E variable at 'ta' gets what the Value's own variable 'b' holds. -/
theorem TT_set25 (ta b : Addr) (n : Int) (old : Value) (W : World) (hb : W.cell? b = some (.int .i64 n)) (ht : W.cell? ta = some old) (hf : W.frozen? ta = false) :
    (ReflectliteValue.set #[.agg #[.pointer (some ⟨3, 111, none⟩), .pointer (some ta), .int .u64 386], .agg #[.pointer (some ⟨3, 111, none⟩), .pointer (some b), .int .u64 130]]).run Tryz.prog W
      = .ok (.tuple #[]) (W.setCell ta (.int .i64 n)) := by
  rw [rls]
  simp only [Sem.run_bind, TT_parts25a, TT_parts25, Result.andThen]
  simp [ReflectliteValue.flagAddr, loadVar, isAgg, underlying, Tryz.underlying111, hb, Result.andThen, TT_direct25, storeVar, Value.cells, storeCells, Addr.add]
  rw [run_store Tryz.prog W ta _ _ (by rfl)]
  simp [ht, hf]

set_option maxHeartbeats 4000000 in
theorem as_hit (n : Int) (t : Addr) (old : Value) (w : World) (hg : w.cell? ⟨0, 0, none⟩ = some (.iface 209 (.agg #[.pointer (some ⟨3, 57, none⟩)]))) (ht0 : w.cell? t = some old) (hf0 : w.frozen? t = false) :
    Calls Tryz.prog 65 #[.iface 111 (.int .i64 n), .iface 128 (.pointer (some t))] w fun ev w' => ev = .returned (.bool true) ∧ w' = ((((w.alloc (.cells #[.pointer (some t)] 128)).alloc (.cells #[.pointer (some ⟨3, 128, none⟩), .pointer (some ⟨w.heap.size, 0, none⟩), .int .u64 150] 174)).alloc (.cells #[.pointer (some ⟨3, 128, none⟩), .pointer (some ⟨w.heap.size, 0, none⟩), .int .u64 150] 174)).alloc (.cells #[.int .i64 n] 111)).setCell t (.int .i64 n) := by
  have h6 := @run_callFunc_extern Tryz.prog 109 _ (fun args => ReflectliteValue.unpack (args.getD 0 (.tuple #[]))) Tryz.func109 (by kernel_rfl) (by kernel_rfl) (by kernel_rfl) (by kernel_rfl)
  have h7 := @run_callFunc_extern Tryz.prog 110 _ (ReflectliteValue.methodAny (ReflectliteValue.valueError "reflectlite.Value.Type" 0) (fun t _ _ _ => ReflectliteType.toType t)) Tryz.func110 (by kernel_rfl) (by kernel_rfl) (by kernel_rfl) (by kernel_rfl)
  have h8 := @run_callFunc_extern Tryz.prog 111 _ (ReflectliteValue.method (ReflectliteValue.valueError "reflectlite.Value.IsNil" 0) ReflectliteValue.isNil) Tryz.func111 (by kernel_rfl) (by kernel_rfl) (by kernel_rfl) (by kernel_rfl)
  have h27 := @run_callFunc_extern Tryz.prog 169 _ (ReflectliteType.abiMethod fun t => do pure (.int .u8 (← Rtype.kind t))) Tryz.func169 (by kernel_rfl) (by kernel_rfl) (by kernel_rfl) (by kernel_rfl)
  have h37 := @run_callFunc_extern Tryz.prog 181 _ (ReflectliteType.method ReflectliteType.elem) Tryz.func181 (by kernel_rfl) (by kernel_rfl) (by kernel_rfl) (by kernel_rfl)
  have h38 := @run_callFunc_extern Tryz.prog 182 _ (ReflectliteType.relation "Implements" ReflectliteType.implements_) Tryz.func182 (by kernel_rfl) (by kernel_rfl) (by kernel_rfl) (by kernel_rfl)
  have h10 := @run_callFunc_extern Tryz.prog 129 _ ReflectliteType.typeOf Tryz.func129 (by kernel_rfl) (by kernel_rfl) (by kernel_rfl) (by kernel_rfl)
  have h35 := @run_callFunc_extern Tryz.prog 179 _ (ReflectliteType.relation "AssignableTo" ReflectliteType.assignableTo) Tryz.func179 (by kernel_rfl) (by kernel_rfl) (by kernel_rfl) (by kernel_rfl)
  have h11 := @run_callFunc_extern Tryz.prog 130 _ (ReflectliteValue.method (ReflectliteValue.valueError "reflectlite.Value.Elem" 0) ReflectliteValue.elem) Tryz.func130 (by kernel_rfl) (by kernel_rfl) (by kernel_rfl) (by kernel_rfl)
  have h12 := @run_callFunc_extern Tryz.prog 131 _ ReflectliteValue.set Tryz.func131 (by kernel_rfl) (by kernel_rfl) (by kernel_rfl) (by kernel_rfl)
  have tO := TT_typeOf25
  have mA := TT_methodAssignableTo
  have a25 := TT_assignable25
  have v25 := TT_valueOf25
  have f6 := TT_valueOf27
  have f7 := TT_type27
  have mK := TT_methodKind
  have mE := TT_methodElem
  have mI := TT_methodImplements
  have k27 := TT_kind27
  have k25 := TT_kind25
  have e27 := TT_elem27
  have i25 := TT_implements25
  have n8 := TT_isNil27 ⟨w.heap.size, 0, none⟩ t ((w.alloc (.cells #[.pointer (some t)] 128)).alloc (.cells #[.pointer (some ⟨3, 128, none⟩), .pointer (some ⟨w.heap.size, 0, none⟩), .int .u64 150] 174)) (by simp)
  have hlt : 0 < w.heap.size := by
    rcases Nat.eq_zero_or_pos w.heap.size with h0 | h
    · simp [World.cell?, h0] at hg
    · exact h
  have hg2 : ((w.alloc (.cells #[.pointer (some t)] 128)).alloc (.cells #[.pointer (some ⟨3, 128, none⟩), .pointer (some ⟨w.heap.size, 0, none⟩), .int .u64 150] 174)).cell? ⟨0, 0, none⟩ = some (.iface 209 (.agg #[.pointer (some ⟨3, 57, none⟩)])) := by
    rw [World.cell?_alloc_lt _ _ ⟨0, 0, none⟩ (by simp), World.cell?_alloc_lt _ _ ⟨0, 0, none⟩ hlt]; exact hg
  have htl : t.block < w.heap.size := by
    rcases Nat.lt_or_ge t.block w.heap.size with h | h
    · exact h
    · simp [World.cell?, Array.getElem?_eq_none h] at ht0
  have el := TT_elemV27 ⟨w.heap.size, 0, none⟩ t (((w.alloc (.cells #[.pointer (some t)] 128)).alloc (.cells #[.pointer (some ⟨3, 128, none⟩), .pointer (some ⟨w.heap.size, 0, none⟩), .int .u64 150] 174)).alloc (.cells #[.pointer (some ⟨3, 128, none⟩), .pointer (some ⟨w.heap.size, 0, none⟩), .int .u64 150] 174)) (by rw [World.cell?_alloc_lt _ _ ⟨w.heap.size, 0, none⟩ (by simp; omega)]; simp)
  have st := TT_set25 t ⟨w.heap.size + 1 + 1 + 1, 0, none⟩ n old ((((w.alloc (.cells #[.pointer (some t)] 128)).alloc (.cells #[.pointer (some ⟨3, 128, none⟩), .pointer (some ⟨w.heap.size, 0, none⟩), .int .u64 150] 174)).alloc (.cells #[.pointer (some ⟨3, 128, none⟩), .pointer (some ⟨w.heap.size, 0, none⟩), .int .u64 150] 174)).alloc (.cells #[.int .i64 n] 111))
    (by rw [World.cell?_alloc_at _ _ _ _ (by simp)]; rfl)
    (by rw [World.cell?_alloc_lt _ _ t (by simp; omega), World.cell?_alloc_lt _ _ t (by simp; omega), World.cell?_alloc_lt _ _ t (by simp; omega), World.cell?_alloc_lt _ _ t htl]; exact ht0)
    (by rw [World.frozen?_alloc_old _ _ t (by simp; omega), World.frozen?_alloc_old _ _ t (by simp; omega), World.frozen?_alloc_old _ _ t (by simp; omega), World.frozen?_alloc_old _ _ t (Nat.ne_of_lt htl)]; exact hf0)
  go_enter Tryz.func65, Tryz.ntmps65
  go_wp2
  refine wp_loop_rounds 1 ?_
  rw [rounds_succ]
  go_wp2
  go_ret
  exact ⟨rfl, rfl⟩
end Go.Proofs.YtcglahfmnoghjaaGreatDoor

/-! An error's number. Conditions: the variable errors.errorType holds what its row says. Began as the kit's worked example 'ToyasWalks', turned to this program. -/
namespace Go.Proofs.YtcglahfmnoghjaaGreatDoor
open Go.RowKit Go.Extern.Stop Go.Stop Go.Extern

set_option maxHeartbeats 4000000 in
theorem num_nil (w : World) : Calls Tryz.prog 27 #[.nilIface] w fun e w' => e = .returned (.int .i64 0) ∧ w' = w.alloc (.cells #[.int .i64 0] 111) := by
  go_enter Tryz.func27, Tryz.ntmps27
  go_wp2
  go_ret
  exact ⟨rfl, rfl⟩

set_option maxHeartbeats 4000000 in
theorem num_errno (n : Int) (w : World) (hg : w.cell? ⟨0, 0, none⟩ = some (.iface 209 (.agg #[.pointer (some ⟨3, 57, none⟩)]))) :
    Calls Tryz.prog 27 #[.iface 111 (.int .i64 n)] w fun e w' => e = .returned (.int .i64 n) ∧ w' = ((((w.alloc (.cells #[.int .i64 n] 111)).alloc (.cells #[.pointer (some ⟨w.heap.size, 0, none⟩)] 128)).alloc (.cells #[.pointer (some ⟨3, 128, none⟩), .pointer (some ⟨w.heap.size + 1, 0, none⟩), .int .u64 150] 174)).alloc (.cells #[.pointer (some ⟨3, 128, none⟩), .pointer (some ⟨w.heap.size + 1, 0, none⟩), .int .u64 150] 174)).alloc (.cells #[.int .i64 n] 111) := by
  have hlt : 0 < w.heap.size := by
    rcases Nat.eq_zero_or_pos w.heap.size with h0 | h
    · simp [World.cell?, h0] at hg
    · exact h
  have hgA : (w.alloc (.cells #[.int .i64 0] 111)).cell? ⟨0, 0, none⟩ = some (.iface 209 (.agg #[.pointer (some ⟨3, 57, none⟩)])) := by
    rw [World.cell?_alloc_lt _ _ ⟨0, 0, none⟩ hlt]; exact hg
  have htA : (w.alloc (.cells #[.int .i64 0] 111)).cell? ⟨w.heap.size, 0, none⟩ = some (.int .i64 0) := by simp
  have hfA : (w.alloc (.cells #[.int .i64 0] 111)).frozen? ⟨w.heap.size, 0, none⟩ = false := by simp
  have hit := as_hit n ⟨w.heap.size, 0, none⟩ (.int .i64 0) _ hgA htA hfA
  go_enter Tryz.func27, Tryz.ntmps27
  go_wp2_with (first | (go_at_call 65; refine hit.mono ?_; rintro e w' ⟨rfl, rfl⟩))
  go_ret
  exact ⟨rfl, rfl⟩
end Go.Proofs.YtcglahfmnoghjaaGreatDoor

/-! An error's number: the contract. Conditions: none. -/
namespace Go.Proofs.YtcglahfmnoghjaaGreatDoor
open Go Go.Eng Go.Proofs.Tryz

theorem left_old {O : Nat → Prop} {C : Enc AA} {q : Bool} {env : List Wit} {w w' : World} {sh : List (SO AA)} {K : Pred AA} {s : SV AA} {v : Value} (hh : HR O env w C sh) (ho : Old w w') (h1 : w'.os = w.os) (h2 : w'.tape = w.tape) (h3 : w'.output = w.output)
    (hr : Rep O env w' C s v) (hk : K s sh) : Go.Eng.Left O C q env w K v w' := by
  have hs : Step env w env w' := ⟨h1, h2, h3, ho.size, Nat.le_refl _, fun _ x h => ⟨x, h, .refl x⟩, fun _ h => .inl h, fun b hb _ => ho.same b hb⟩
  exact ⟨s, sh, env, hr, ⟨hh.len, fun i so y h4 h5 => (hh.rep i so y h4 h5).step hs (fun b hb => ho.same b (hh.lt b ⟨i, y, h5, hb⟩)), hh.disj, hh.out, fun b hb => Nat.lt_of_lt_of_le (hh.lt b hb) ho.size, fun b hb => Nat.lt_of_lt_of_le (hh.olt b hb) ho.size⟩, hs, fun _ => ⟨ho.size, ho.same⟩, hk⟩

def numT : SpecT AA := fun args sh K => match args with
  | [.val .nilIface] => K (.int .i64 0) sh
  | [.iface t s] => if t = 111 then (match asI s with
    | some n => K (.int .i64 n) sh
    | none => False) else False
  | [.err t n] => if t = 111 then K (.int .i64 n) sh else False
  | _ => False

theorem f15_body : f27.body = some (bodyOf f27) := by kernel_rfl
theorem f15_name : (f27.name == "runtime.NumGoroutine") = false := by kernel_rfl
/-- A call that returns, and leaves what was there. -/
theorem callR_old {P : Program} {f : FuncId} {fn : Func} {c : Code} (hf : P.funcs[f]? = some fn) (hname : (fn.name == "runtime.NumGoroutine") = false) (hb : fn.body = some c) {vs : Array Value} {w : World} {O : Nat → Prop} {C : Enc AA} {q : Bool} {env : List Wit} {sh : List (SO AA)} {K : Pred AA} {v : Value} {W : World} {s : SV AA}
    (h : Calls P f vs w fun e w' => e = .returned v ∧ w' = W) (hh : HR O env w C sh) (ho : Old w W) (h1 : W.os = w.os) (h2 : W.tape = w.tape) (h3 : W.output = w.output) (hr : Rep O env W C s v) (hk : K s sh) : CallR P f vs w (Go.Eng.Left O C q env w K) := by
  refine callR_of_calls hf hname hb (h.mono fun e w' he => ?_)
  obtain ⟨rfl, rfl⟩ := he
  exact left_old hh ho h1 h2 h3 hr hk

theorem num_known {P : Program} {f : FuncId} {l : List (Nat × SpecT AA)} (k : Known P l) {fn : Func} {c : Code} (hf : P.funcs[f]? = some fn) (hname : (fn.name == "runtime.NumGoroutine") = false) (hb : fn.body = some c)
    (hnil : ∀ w, Calls P f #[.nilIface] w fun e w' => e = .returned (.int .i64 0) ∧ w' = w.alloc (.cells #[.int .i64 0] 111))
    (herr : ∀ (n : Int) (w : World), w.cell? ⟨0, 0, none⟩ = some (.iface 209 (.agg #[.pointer (some ⟨3, 57, none⟩)])) → Calls P f #[.iface 111 (.int .i64 n)] w fun e w' => e = .returned (.int .i64 n) ∧ w' = ((((w.alloc (.cells #[.int .i64 n] 111)).alloc (.cells #[.pointer (some ⟨w.heap.size, 0, none⟩)] 128)).alloc (.cells #[.pointer (some ⟨3, 128, none⟩), .pointer (some ⟨w.heap.size + 1, 0, none⟩), .int .u64 150] 174)).alloc (.cells #[.pointer (some ⟨3, 128, none⟩), .pointer (some ⟨w.heap.size + 1, 0, none⟩), .int .u64 150] 174)).alloc (.cells #[.int .i64 n] 111)) : Known P ((f, numT) :: l) := by
  refine Known.cons ?_ k
  intro args sh K hk O env w vs ha hh hg
  unfold numT at hk
  split at hk
  · obtain ⟨u, us, rfl, h1, h2⟩ := ha
    have h3 : us = [] := h2
    subst h3
    have h4 := h1.inv_val
    subst h4
    exact callR_old hf hname hb (hnil w) hh (Old.alloc _ _) rfl rfl rfl .int hk
  · split at hk
    · rename_i e
      subst e
      split at hk
      · rename_i n hn
        obtain ⟨u, us, rfl, h1, h2⟩ := ha
        have h3 : us = [] := h2
        subst h3
        obtain ⟨v, rfl, h4⟩ := h1.inv_iface
        have h5 : v = .int .i64 n := by
          unfold asI at hn
          split at hn
          · cases hn; exact h4.inv_int
          · cases hn; exact h4.inv_lit
          · cases hn
        subst h5
        have hg0 := hg 0 _ rfl
        obtain ⟨b, o, vs, e1, _, _, _, hc, hr⟩ := hg0.inv_rptr
        obtain ⟨x, xs, rfl, hx, _⟩ := hr.inv_cell
        have hx := hx.inv_val
        subst hx
        have e2 : b = 0 ∧ o = 0 := by simp at e1; omega
        obtain ⟨rfl, rfl⟩ := e2
        have hcell := hc 0 _ rfl
        exact callR_old hf hname hb (herr n w hcell) hh (((((Old.alloc _ _).trans (Old.alloc _ _)).trans (Old.alloc _ _)).trans (Old.alloc _ _)).trans (Old.alloc _ _)) rfl rfl rfl .int hk
      · exact hk.elim
    · exact hk.elim
  · split at hk
    · rename_i e
      subst e
      obtain ⟨u, us, rfl, h1, h2⟩ := ha
      have h3 : us = [] := h2
      subst h3
      rcases h1.inv_err with ⟨rfl, rfl⟩ | ⟨hn, rfl⟩
      · exact callR_old hf hname hb (hnil w) hh (Old.alloc _ _) rfl rfl rfl .int hk
      · obtain ⟨b, o, vs, e1, _, _, _, hc, hr⟩ := (hg 0 _ rfl).inv_rptr
        obtain ⟨x, xs, rfl, hx, _⟩ := hr.inv_cell
        have hx := hx.inv_val
        subst hx
        have e2 : b = 0 ∧ o = 0 := by simp at e1; omega
        obtain ⟨rfl, rfl⟩ := e2
        have hcell := hc 0 _ rfl
        exact callR_old hf hname hb (herr _ w hcell) hh (((((Old.alloc _ _).trans (Old.alloc _ _)).trans (Old.alloc _ _)).trans (Old.alloc _ _)).trans (Old.alloc _ _)) rfl rfl rfl .int hk
    · exact hk.elim
  · exact hk.elim
def L9 : List (Nat × SpecT AA) := (27, numT) :: L8
theorem known9 : Known prog L9 := by
  unfold L9
  exact num_known known8 func27 f15_name f15_body num_nil num_errno
end Go.Proofs.YtcglahfmnoghjaaGreatDoor

/-! Number by number. Conditions: none. -/
namespace Go.Proofs.YtcglahfmnoghjaaGreatDoor
open Go Go.Eng Go.Proofs.Tryz

noncomputable def E9 : Eng AA := EE prog L9
def intsLS : LS AA where
  X := List Int × List Int
  pre := fun _ => True
  args := fun x => [.rints .i64 x.1, .rints .i64 x.2]
  hin := fun _ => []
  res := fun x => [.sb 0 (decide (x.1 = x.2))]
  hout := fun _ => []
def intsGet : List (SV AA) → Option (List Int × List Int)
  | [a, b] => match asIs .i64 a, asIs .i64 b with
    | some x, some y => some (x, y)
    | _, _ => none
  | _ => none
def intsAnn (x : List Int × List Int) : Anns AA := fun _ _ _ => some {
  X := Nat
  inv := fun k => k ≤ x.1.length ∧ x.1.length = x.2.length ∧ ∀ j, j < k → x.1.getD j 0 = x.2.getD j 0
  meas := fun k => x.1.length - k
  slots := fun k => [(5, .int .i64 k)]
  heap := fun _ => [] }
end Go.Proofs.YtcglahfmnoghjaaGreatDoor

/-! Number by number: it holds. Conditions: none. -/
namespace Go.Proofs.YtcglahfmnoghjaaGreatDoor
open Go Go.Eng Go.Proofs.Tryz

def intsVC : Prop := ∀ (x : List Int × List Int),
  True →
    (↑x.fst.length : Int) ≤ (9223372036854775807 : Int) →
      (↑x.snd.length : Int) ≤ (9223372036854775807 : Int) →
        (((↑x.fst.length : Int) != (↑x.snd.length : Int)) = true → decide (x.fst = x.snd) = false ∧ True ∧ True) ∧
          (((↑x.fst.length : Int) != (↑x.snd.length : Int)) = false →
            (∃ x_1,
                (x_1 ≤ x.fst.length ∧
                    x.fst.length = x.snd.length ∧
                      ∀ (j : Nat), j < x_1 → x.fst.getD j (0 : Int) = x.snd.getD j (0 : Int)) ∧
                  (↑x_1 : Int) = (0 : Int) ∧ True ∧ True) ∧
              ∀ (x_1 : Nat),
                (x_1 ≤ x.fst.length ∧
                    x.fst.length = x.snd.length ∧
                      ∀ (j : Nat), j < x_1 → x.fst.getD j (0 : Int) = x.snd.getD j (0 : Int)) →
                  (↑x.fst.length : Int) ≤ (9223372036854775807 : Int) →
                    (decide ((↑x_1 : Int) < (↑x.fst.length : Int)) = true →
                        (0 : Int) ≤ (↑x_1 : Int) ∧
                          (↑x_1 : Int) < (↑x.fst.length : Int) ∧
                            (↑x_1 : Int).toNat < x.fst.length ∧
                              (0 : Int) ≤ (↑x_1 : Int) ∧
                                (↑x_1 : Int) < (↑x.snd.length : Int) ∧
                                  (↑x_1 : Int).toNat < x.snd.length ∧
                                    ((x.fst.getD (↑x_1 : Int).toNat (0 : Int) !=
                                            x.snd.getD (↑x_1 : Int).toNat (0 : Int)) =
                                          true →
                                        decide (x.fst = x.snd) = false ∧ True ∧ True) ∧
                                      ((x.fst.getD (↑x_1 : Int).toNat (0 : Int) !=
                                            x.snd.getD (↑x_1 : Int).toNat (0 : Int)) =
                                          false →
                                        inI64 ((↑x_1 : Int) + (1 : Int)) ∧
                                          ∃ y,
                                            (y ≤ x.fst.length ∧
                                                x.fst.length = x.snd.length ∧
                                                  ∀ (j : Nat),
                                                    j < y → x.fst.getD j (0 : Int) = x.snd.getD j (0 : Int)) ∧
                                              x.fst.length - y < x.fst.length - x_1 ∧
                                                (↑y : Int) = (↑x_1 : Int) + (1 : Int) ∧ True ∧ True)) ∧
                      (decide ((↑x_1 : Int) < (↑x.fst.length : Int)) = false →
                        decide (x.fst = x.snd) = true ∧ True ∧ True))
theorem ints_eq : intsVC = fnS E9 f47 (bodyOf f47) intsLS intsAnn := by kernel_rfl
theorem ints_vc : intsVC := by
  rintro ⟨xs, ys⟩ _ hl1 hl2
  simp only at hl1 hl2 ⊢
  refine ⟨fun h => ⟨?_, trivial, trivial⟩, fun h => ⟨⟨0, ⟨Nat.zero_le _, ?_, fun j hj => absurd hj (Nat.not_lt_zero j)⟩, rfl, trivial, trivial⟩, ?_⟩⟩
  · simp only [bne_iff_ne, ne_eq] at h
    exact decide_eq_false fun e => h (by rw [e])
  · simp only [bne_eq_false_iff_eq] at h; omega
  rintro k ⟨hk, hlen, hall⟩ _
  refine ⟨fun h3 => ?_, fun h3 => ⟨?_, trivial, trivial⟩⟩
  · simp only [decide_eq_true_eq] at h3
    refine ⟨by omega, by omega, by omega, by omega, by omega, by omega, fun h4 => ⟨?_, trivial, trivial⟩, fun h4 => ⟨by unfold inI64; omega, k + 1, ⟨by omega, hlen, fun j hj => ?_⟩, by omega, by omega, trivial, trivial⟩⟩
    · simp only [bne_iff_ne, ne_eq] at h4
      exact decide_eq_false fun e => h4 (by rw [e])
    · simp only [bne_eq_false_iff_eq, Int.toNat_natCast] at h4
      rcases Nat.lt_or_ge j k with h5 | h5
      · exact hall j h5
      · have : j = k := by omega
        subst this; exact h4
  · simp only [decide_eq_false_iff_not] at h3
    have hkl : k = xs.length := by omega
    refine decide_eq_true (List.ext_getElem hlen fun j h5 h6 => ?_)
    have := hall j (by omega)
    simpa [List.getD_eq_getElem?_getD, h5, h6] using this
theorem ints_ok : Fits E9 f47 (bodyOf f47) intsLS intsAnn := by
  constructor
  rw [← ints_eq]
  exact ints_vc

theorem f28_body : f47.body = some (bodyOf f47) := by kernel_rfl
theorem f28_name : (f47.name == "runtime.NumGoroutine") = false := by kernel_rfl
theorem E9_eq : E9 = EE prog L9 := by
  unfold E9
  rfl
theorem intsPure : Pure intsLS intsGet where
  hin := fun _ => rfl
  got := fun args x h => by
    unfold intsGet at h
    split at h
    · split at h
      · rename_i h1 h2
        cases h
        exact ⟨asIs_eqv h1, asIs_eqv h2, trivial⟩
      · cases h
    · cases h
  closed := fun _ => rfl
def L10 : List (Nat × SpecT AA) := (47, tOf intsLS intsGet) :: L9
theorem known10 : Known prog L10 := by
  unfold L10
  exact Known.more known9 mixed func47 f28_name f28_body E9_eq ints_ok intsPure
end Go.Proofs.YtcglahfmnoghjaaGreatDoor

/-! DERIVED: THE SHELF's CONTRACTS AT THIS DUMP, IN PLAIN WORDS (tools/lay-plain.mjs out of 'YtcglahfmnoghjaaGreatDoorS1.lean', which tools/lay-shelf.mjs wrote): THE SAME DECLARATIONS UNDER THE SAME NAMES: 'import', 'namespace', 'open', 'def', 'theorem' AND NOTHING ELSE: no command of the shelf's: FOR A HAND-IN. Each laying: the table of numbers ('.._ren') and one theorem, a field a fact of the dump's own or the kernel's comparison; each contract: ONE APPLICATION. -/
namespace Go.Proofs
open Go.Shelf
def Tryz.lays189_ren : Go.Shelf.Ren := ⟨fun | 189 => 84 | 125 => 121 | 257 => 120 | 128 => 142 | 129 => 128 | 294 => 133 | 295 => 134 | 296 => 135 | 297 => 136 | 298 => 137 | 299 => 138 | 216 => 139 | 300 => 140 | 301 => 141 | 328 => 147 | 329 => 148 | 330 => 149 | 331 => 150 | 332 => 151 | 215 => 88 | 343 => 154 | n => n, fun | 28 => 83 | 3 => 3 | 46 => 199 | 0 => 0 | 51 => 189 | 53 => 106 | 4 => 4 | 183 => 225 | 182 => 224 | 131 => 230 | 5 => 5 | 9 => 9 | 218 => 243 | 222 => 247 | 228 => 251 | 229 => 186 | n => n, fun | n => n⟩
theorem Tryz.lays189 : Go.Proofs.Lays.n189 Tryz.prog Tryz.lays189_ren := {
  mixed := by kernel_rfl
  f125 := Tryz.func121.trans (congrArg some (by kernel_rfl))
  f128 := Tryz.func142.trans (congrArg some (by kernel_rfl))
  f129 := Tryz.func128.trans (congrArg some (by kernel_rfl))
  f189 := Tryz.func84.trans (congrArg some (by kernel_rfl))
  f215 := Tryz.func88.trans (congrArg some (by kernel_rfl))
  f216 := Tryz.func139.trans (congrArg some (by kernel_rfl))
  f257 := Tryz.func120.trans (congrArg some (by kernel_rfl))
  f294 := Tryz.func133.trans (congrArg some (by kernel_rfl))
  f295 := Tryz.func134.trans (congrArg some (by kernel_rfl))
  f296 := Tryz.func135.trans (congrArg some (by kernel_rfl))
  f297 := Tryz.func136.trans (congrArg some (by kernel_rfl))
  f298 := Tryz.func137.trans (congrArg some (by kernel_rfl))
  f299 := Tryz.func138.trans (congrArg some (by kernel_rfl))
  f300 := Tryz.func140.trans (congrArg some (by kernel_rfl))
  f301 := Tryz.func141.trans (congrArg some (by kernel_rfl))
  f328 := Tryz.func147.trans (congrArg some (by kernel_rfl))
  f329 := Tryz.func148.trans (congrArg some (by kernel_rfl))
  f330 := Tryz.func149.trans (congrArg some (by kernel_rfl))
  f331 := Tryz.func150.trans (congrArg some (by kernel_rfl))
  f332 := Tryz.func151.trans (congrArg some (by kernel_rfl))
  f343 := Tryz.func154.trans (congrArg some (by kernel_rfl))
  t0 := Tryz.underlying0
  a0 := Tryz.isAgg0
  z0 := Tryz.sizeOf0
  v0 := Tryz.zeroValue0
  t3 := Tryz.underlying3
  a3 := Tryz.isAgg3
  z3 := Tryz.sizeOf3
  v3 := Tryz.zeroValue3
  t4 := Tryz.underlying4
  a4 := Tryz.isAgg4
  z4 := Tryz.sizeOf4
  v4 := Tryz.zeroValue4
  t5 := Tryz.underlying5
  a5 := Tryz.isAgg5
  z5 := Tryz.sizeOf5
  v5 := Tryz.zeroValue5
  t9 := Tryz.underlying9
  a9 := Tryz.isAgg9
  z9 := Tryz.sizeOf9
  v9 := Tryz.zeroValue9
  t28 := Tryz.underlying83
  a28 := Tryz.isAgg83
  z28 := Tryz.sizeOf83
  v28 := Tryz.zeroValue83
  t46 := Tryz.underlying199
  a46 := Tryz.isAgg199
  z46 := Tryz.sizeOf199
  v46 := Tryz.zeroValue199
  t51 := Tryz.underlying189
  a51 := Tryz.isAgg189
  z51 := Tryz.sizeOf189
  v51 := Tryz.zeroValue189
  t53 := Tryz.underlying106
  a53 := Tryz.isAgg106
  z53 := Tryz.sizeOf106
  v53 := Tryz.zeroValue106
  t131 := Tryz.underlying230
  a131 := Tryz.isAgg230
  z131 := Tryz.sizeOf230
  v131 := Tryz.zeroValue230
  t182 := Tryz.underlying224
  a182 := Tryz.isAgg224
  z182 := Tryz.sizeOf224
  v182 := Tryz.zeroValue224
  t183 := Tryz.underlying225
  a183 := Tryz.isAgg225
  z183 := Tryz.sizeOf225
  v183 := Tryz.zeroValue225
  t218 := Tryz.underlying243
  a218 := Tryz.isAgg243
  z218 := Tryz.sizeOf243
  v218 := Tryz.zeroValue243
  t222 := Tryz.underlying247
  a222 := Tryz.isAgg247
  z222 := Tryz.sizeOf247
  v222 := Tryz.zeroValue247
  t228 := Tryz.underlying251
  a228 := Tryz.isAgg251
  z228 := Tryz.sizeOf251
  v228 := Tryz.zeroValue251
  t229 := Tryz.underlying186
  a229 := Tryz.isAgg186
  z229 := Tryz.sizeOf186
  v229 := Tryz.zeroValue186 }
def Tryz.lays2_20_ren : Go.Shelf.Ren := ⟨fun | 20 => 85 | n => n, fun | 22 => 83 | 3 => 3 | 4 => 4 | 0 => 0 | n => n, fun | n => n⟩
theorem Tryz.lays2_20 : Go.Proofs.Lays2.n20 Tryz.prog Tryz.lays2_20_ren := {
  mixed := by kernel_rfl
  f20 := Tryz.func85.trans (congrArg some (by kernel_rfl))
  t0 := Tryz.underlying0
  a0 := Tryz.isAgg0
  z0 := Tryz.sizeOf0
  v0 := Tryz.zeroValue0
  t3 := Tryz.underlying3
  a3 := Tryz.isAgg3
  z3 := Tryz.sizeOf3
  v3 := Tryz.zeroValue3
  t4 := Tryz.underlying4
  a4 := Tryz.isAgg4
  z4 := Tryz.sizeOf4
  v4 := Tryz.zeroValue4
  t22 := Tryz.underlying83
  a22 := Tryz.isAgg83
  z22 := Tryz.sizeOf83
  v22 := Tryz.zeroValue83
  i3 := by kernel_rfl }
end Go.Proofs

/-! Sorting and striking equal neighbours: what a caller knows of them. Conditions: none. -/
namespace Go.Proofs.YtcglahfmnoghjaaGreatDoor
open Go Go.Eng Go.Proofs.Tryz

section
variable {A : Nat → Type} {O : Nat → Prop} {env : List Wit} {w w' : World} {C : Enc A} {sh : List (SO A)}
/-- A vector whose block was written, where it is. -/
theorem vec_same (h : HR O env w C sh) {i : Nat} {v : Value} (hb : env[i]? = some (.sl v)) (hg : w.grownBy w' v.ownBlock) (so : SO A) (hr : ∀ (_ : Step env w env w'), ORep O env w' C so (.sl v)) :
    HR O env w' C (setNth sh i so) ∧ Step env w env w' := by
  have hs : Step env w env w' := ⟨hg.os, hg.tape, hg.output, hg.size, Nat.le_refl _, fun _ x h => ⟨x, h, .refl x⟩, fun _ h => .inl h, fun b hb' hn => hg.block b hb' (fun e => hn ⟨i, _, hb, e.symm⟩)⟩
  refine ⟨⟨by simp [setNth_eq, h.len], fun j so' x h1 h2 => ?_, h.disj, h.out, fun b hb' => Nat.lt_of_lt_of_le (h.lt b hb') hg.size, fun b hb' => Nat.lt_of_lt_of_le (h.olt b hb') hg.size⟩, hs⟩
  rw [setNth_eq] at h1
  by_cases e : i = j
  · subst e
    have hl : i < sh.length := by have := (List.getElem?_eq_some_iff.1 h1).1; simpa using this
    rw [List.getElem?_set_self hl] at h1
    rw [hb] at h2
    cases h1; cases h2
    exact hr hs
  · rw [List.getElem?_set_ne e] at h1
    exact (h.rep j so' x h1 h2).step hs (fun b hb' => hg.block b (h.lt b ⟨j, x, h2, hb'⟩) (fun e' => e (h.disj i j _ x b hb h2 e'.symm hb')))
end

open Go.Sort in
/-- A row that is laid over a block's head. -/
theorem putRow_own {w : World} {g cap q : Nat} {cur : Array Value} {e : TypeId} {ys : List Int} (hg : w.heap[g]? = some (.cells cur e (0, 0))) (hcap : cur.size = cap) (hn : ys.length ≤ cap) (os : Array Obj) :
    w.grownBy (grow (putRow (Value.int .i64) (Sort.ahead w q) g 0 ys.toArray) os) (some g) ∧
    ∃ cur', (grow (putRow (Value.int .i64) (Sort.ahead w q) g 0 ys.toArray) os).heap[g]? = some (.cells cur' e (0, 0)) ∧ cur'.size = cap ∧ cur'.toList.take ys.length = ys.map (Value.int .i64) := by
  have hlt : g < w.heap.size := (Array.getElem?_eq_some_iff.1 hg).1
  have hold : ∀ b, b < w.heap.size → (grow (putRow (Value.int .i64) (Sort.ahead w q) g 0 ys.toArray) os).heap[b]? = (w.heap.modify g (onCells (putCells (Value.int .i64) 0 ys.toArray)))[b]? := by
    intro b hb
    simp only [grow, putRow, mapBlock, Sort.ahead]
    rw [Array.getElem?_append_left (by simpa using hb)]
  refine ⟨⟨rfl, rfl, rfl, by simp [grow, putRow, mapBlock, Sort.ahead], fun b hb hne => ?_⟩, ?_⟩
  · rw [hold b hb, Array.getElem?_modify]
    rw [if_neg (fun h => hne (by rw [h]))]
  · rw [hold g hlt, Array.getElem?_modify, if_pos rfl, hg]
    refine ⟨_, rfl, by simp [putCells, hcap], ?_⟩
    apply List.ext_getElem?
    intro j
    rw [List.getElem?_take]
    simp only [putCells, Array.getElem?_toList, Array.getElem?_mapIdx, List.getElem?_map]
    split
    · rename_i hj
      have hjc : j < cur.size := by omega
      rw [Array.getElem?_eq_getElem hjc, List.getElem?_eq_getElem hj]
      simp [hj]
    · rename_i hj
      rw [List.getElem?_eq_none (by omega)]
      rfl

theorem holds_own {w : World} {g cap : Nat} {cur : Array Value} {e : TypeId} {xs : List Int} (hg : w.heap[g]? = some (.cells cur e (0, 0))) (_hcap : cur.size = cap) (_hn : xs.length ≤ cap) (ht : cur.toList.take xs.length = xs.map (Value.int .i64)) :
    Go.Sort.Holds (Value.int .i64) w g 0 xs.toArray := by
  intro j hj
  simp only [List.size_toArray] at hj
  have h1 : (cur.toList.take xs.length)[j]? = some (Value.int .i64 xs[j]) := by rw [ht, List.getElem?_map, List.getElem?_eq_getElem hj]; rfl
  rw [List.getElem?_take, if_pos hj, Array.getElem?_toList] at h1
  refine ⟨?_, ?_⟩
  · simp [World.cell?, hg, h1, hj]
  · simp [World.frozen?, hg]

def sortI (xs : List Int) : List Int := xs.mergeSort fun x y => decide (x ≤ y)
def sortT : SpecT AA := fun args sh K => match args with
  | [.vec i] => match nth sh i with
    | some (.ivec e .i64 xs) => xs.length < 4611686018427387904 ∧ K (.tup .nil) (setNth sh i (.ivec e .i64 (sortI xs)))
    | _ => False
  | [.val (.slice none 0 0)] => K (.tup .nil) sh
  | _ => False
def compT : SpecT AA := fun args sh K => match args with
  | [.vec i] => match nth sh i with
    | some (.ivec e .i64 xs) => xs.length ≤ 9223372036854775807 ∧ K (.vec (cnt (setNth sh i .dead))) (snoc (setNth sh i .dead) (.ivec e .i64 (Lib.compact xs)))
    | _ => False
  | _ => False

theorem sortI_len (xs : List Int) : (sortI xs).length = xs.length := by simp [sortI]
theorem f54_has : Has prog 84 f84 (bodyOf f84) := ⟨by kernel_rfl, by kernel_rfl, by kernel_rfl⟩
theorem f55_has : Has prog 85 f85 (bodyOf f85) := ⟨by kernel_rfl, by kernel_rfl, by kernel_rfl⟩
theorem sort_none (w : World) : Calls prog 84 #[.slice none 0 0] w fun e w' => e = .returned (.tuple #[]) ∧ w' = w := Any.slices_Sort_int_none Tryz.lays189 none 0 w
open Go.Sort in
theorem sort_some (blk off cap : Nat) (zs : List Int) (w : World) (hH : Holds (Value.int .i64) w blk off zs.toArray) (hblk : blk < w.heap.size) (hsz : zs.length < 4611686018427387904) :
    Calls prog 84 #[.slice (some ⟨blk, off, none⟩) zs.length cap] w fun e w' => e = .returned (.tuple #[]) ∧ ∃ n os, w' = grow (putRow (Value.int .i64) (Sort.ahead w n) blk off (zs.mergeSort fun x y => decide (x ≤ y)).toArray) os := Any.slices_Sort_int Tryz.lays189 blk off cap zs w hH hblk hsz
theorem comp_none (w : World) : Calls prog 85 #[.slice none 0 0] w fun e w' => e = .returned (.slice none 0 0) ∧ w' = w := Any.slices_Compact_int_empty Tryz.lays2_20 none 0 w
open Go.Sort in
theorem comp_some (blk off cap : Nat) (zs : List Int) (w : World) (hH : Holds (Value.int .i64) w blk off zs.toArray) (hsz : zs.length ≤ 9223372036854775807) (hcap : zs.length ≤ cap) :
    Calls prog 85 #[.slice (some ⟨blk, off, none⟩) zs.length cap] w fun e w' => e = .returned (.slice (some ⟨blk, off, none⟩) (Lib.compact zs).length cap) ∧ ∃ q, w' = putRow (Value.int .i64) (Sort.ahead w q) blk off (Lib.compact zs ++ List.replicate (zs.length - (Lib.compact zs).length) 0).toArray := Any.slices_Compact_int Tryz.lays2_20 blk off cap zs w hH hsz hcap
theorem callR_post {P : Program} {f : FuncId} {fn : Func} {c : Code} (hf : Has P f fn c) {vs : Array Value} {w : World} {R : Value → World → Prop} {R' : Ending → World → Prop} (h : Calls P f vs w R') (hm : ∀ e w', R' e w' → ∃ v, e = .returned v ∧ R v w') : CallR P f vs w R := by
  refine callR_of_calls hf.is hf.name hf.body (h.mono fun e w' he => ?_)
  obtain ⟨v, rfl, hv⟩ := hm e w' he
  exact hv
open Go.Sort in
theorem sort_known {P : Program} {n : FuncId} (hq : qfA n = false) {fn : Func} {c : Code} (f54_has : Has P n fn c)
    (sort_none : ∀ w : World, Calls P n #[.slice none 0 0] w fun e w' => e = .returned (.tuple #[]) ∧ w' = w)
    (sort_some : ∀ (blk off cap : Nat) (zs : List Int) (w : World) (_ : Holds (Value.int .i64) w blk off zs.toArray) (_ : blk < w.heap.size) (_ : zs.length < 4611686018427387904),
      Calls P n #[.slice (some ⟨blk, off, none⟩) zs.length cap] w fun e w' => e = .returned (.tuple #[]) ∧ ∃ n os, w' = grow (putRow (Value.int .i64) (Sort.ahead w n) blk off (zs.mergeSort fun x y => decide (x ≤ y)).toArray) os)
    {l : List (Nat × SpecT AA)} (k : Known P l) : Known P ((n, sortT) :: l) := by
  refine .add ?_ k
  rw [hq]
  intro args sh K hk O env w vs ha hh hg
  unfold sortT at hk
  split at hk
  · rename_i i
    split at hk
    case h_2 => exact hk.elim
    rename_i e xs hi
    obtain ⟨hlen, hk⟩ := hk
    obtain ⟨u, us, rfl, h1, h2⟩ := ha
    have h3 : us = [] := h2
    subst h3
    obtain ⟨v, hb, hown⟩ := hh.ivec hi
    have hv : u = v := slAt_some h1.inv_vec hb
    subst hv
    obtain ⟨hol, hown⟩ := hown
    rcases hown with ⟨rfl, hn⟩ | ⟨g, cap, cur, rfl, _, hg1, hg2, _, hg4, hg5⟩
    · have hx : xs = [] := List.eq_nil_of_length_eq_zero hn
      subst hx
      refine callR_post f54_has (sort_none w) ?_
      rintro e' w' ⟨rfl, rfl⟩
      refine ⟨_, rfl, ?_⟩
      have hss : sortI [] = [] := by simp [sortI]
      rw [hss] at hk
      have : setNth sh i (.ivec e .i64 []) = sh := by
        rw [setNth_eq]; rw [nth_eq] at hi
        obtain ⟨hl, he⟩ := List.getElem?_eq_some_iff.1 hi
        rw [← he]
        exact List.set_getElem_self hl
      rw [this] at hk
      exact ⟨_, sh, env, .tup [] .nil, hh, Step.refl _ _, fun h => by simp at h, hk⟩
    · simp only [Nat.mul_one] at hg4 hg5
      refine callR_post f54_has (sort_some g 0 cap xs w (holds_own hg1 hg4 hg2 hg5) (Array.getElem?_eq_some_iff.1 hg1).1 hlen) ?_
      rintro e' w' ⟨rfl, q, os, rfl⟩
      refine ⟨_, rfl, ?_⟩
      obtain ⟨h4, cur', h5, h6, h7⟩ := putRow_own (q := q) (ys := sortI xs) hg1 hg4 (by rw [sortI_len]; exact hg2) os
      obtain ⟨h8, h9⟩ := vec_same hh hb (w' := Go.Sort.grow (Go.Sort.putRow (Value.int .i64) (Go.Sort.ahead w q) g 0 (sortI xs).toArray) os) h4 (.ivec e .i64 (sortI xs)) (fun _ => ⟨by simp, .inr ⟨g, cap, cur', by rw [sortI_len], Nat.zero_le _, h5, by rw [sortI_len]; exact hg2, by assumption, by simpa using h6, by simpa using h7⟩⟩)
      exact ⟨_, _, env, .tup [] .nil, h8, h9, fun h => by simp at h, hk⟩
  · obtain ⟨u, us, rfl, h1, h2⟩ := ha
    have h3 : us = [] := h2
    subst h3
    rw [h1.inv_val]
    refine callR_post f54_has (sort_none w) ?_
    rintro e' w' ⟨rfl, rfl⟩
    refine ⟨_, rfl, ?_⟩
    exact ⟨_, sh, env, .tup [] .nil, hh, Step.refl _ _, fun h => by simp at h, hk⟩
  · exact hk.elim

theorem compact_le (xs : List Int) : (Lib.compact xs).length ≤ xs.length := by
  unfold Lib.compact Lib.compactUpTo
  rw [List.length_map]
  exact Nat.le_trans (List.length_filter_le _ _) (by simp)
open Go.Sort in
theorem comp_known {P : Program} {n : FuncId} (hq : qfA n = false) {fn : Func} {c : Code} (f55_has : Has P n fn c)
    (comp_none : ∀ w : World, Calls P n #[.slice none 0 0] w fun e w' => e = .returned (.slice none 0 0) ∧ w' = w)
    (comp_some : ∀ (blk off cap : Nat) (zs : List Int) (w : World) (_ : Holds (Value.int .i64) w blk off zs.toArray) (_ : zs.length ≤ 9223372036854775807) (_ : zs.length ≤ cap),
      Calls P n #[.slice (some ⟨blk, off, none⟩) zs.length cap] w fun e w' => e = .returned (.slice (some ⟨blk, off, none⟩) (Lib.compact zs).length cap) ∧ ∃ q, w' = putRow (Value.int .i64) (Sort.ahead w q) blk off (Lib.compact zs ++ List.replicate (zs.length - (Lib.compact zs).length) 0).toArray)
    {l : List (Nat × SpecT AA)} (k : Known P l) : Known P ((n, compT) :: l) := by
  refine .add ?_ k
  rw [hq]
  intro args sh K hk O env w vs ha hh hg
  unfold compT at hk
  split at hk
  · rename_i i
    split at hk
    case h_2 => exact hk.elim
    rename_i e xs hi
    obtain ⟨hlen, hk⟩ := hk
    obtain ⟨u, us, rfl, h1, h2⟩ := ha
    have h3 : us = [] := h2
    subst h3
    obtain ⟨v, hb, hown⟩ := hh.ivec hi
    have hv : u = v := slAt_some h1.inv_vec hb
    subst hv
    obtain ⟨hol, hown⟩ := hown
    rcases hown with ⟨rfl, hn⟩ | ⟨g, cap, cur, rfl, _, hg1, hg2, _, hg4, hg5⟩
    · have hx : xs = [] := List.eq_nil_of_length_eq_zero hn
      subst hx
      refine callR_post f55_has (comp_none w) ?_
      rintro e' w' ⟨rfl, rfl⟩
      refine ⟨_, rfl, ?_⟩
      have hss : Lib.compact ([] : List Int) = [] := rfl
      rw [hss] at hk
      obtain ⟨h4, h5, h6⟩ := vec_next hh hb (v' := .slice none 0 0) (w' := w') ⟨rfl, rfl, rfl, Nat.le_refl _, fun _ _ _ => rfl⟩ (.inl rfl) (fun b hb => by cases hb) (.ivec e .i64 []) (fun _ => ⟨by simp, .inl ⟨rfl, rfl⟩⟩)
      rw [snoc_eq] at hk
      exact ⟨_, _, _, h6, h4, h5, fun h => by simp at h, hk⟩
    · simp only [Nat.mul_one] at hg4 hg5
      refine callR_post f55_has (comp_some g 0 cap xs w (holds_own hg1 hg4 hg2 hg5) hlen hg2) ?_
      rintro e' w' ⟨rfl, q, hw'⟩
      refine ⟨_, rfl, ?_⟩
      have hcl := compact_le xs
      have hy : (Lib.compact xs ++ List.replicate (xs.length - (Lib.compact xs).length) 0).length = xs.length := by simp; omega
      obtain ⟨h4, cur', h5, h6, h7⟩ := putRow_own (q := q) (ys := Lib.compact xs ++ List.replicate (xs.length - (Lib.compact xs).length) 0) hg1 hg4 (by rw [hy]; exact hg2) #[]
      rw [Go.Sort.grow_empty] at h4 h5
      rw [← hw'] at h4 h5
      obtain ⟨h8, h9, h10⟩ := vec_next hh hb (v' := .slice (some ⟨g, 0, none⟩) (Lib.compact xs).length cap) (w' := w') h4 (.inl rfl) (fun b hb => by cases hb; exact (Array.getElem?_eq_some_iff.1 h5).1) (.ivec e .i64 (Lib.compact xs))
        (fun _ => ⟨by simp, .inr ⟨g, cap, cur', rfl, Nat.zero_le _, h5, by omega, by assumption, by simpa using h6, by
          simp only [Nat.mul_one]
          rw [hy] at h7
          have h11 : (cur'.toList.take xs.length).take (Lib.compact xs).length = ((Lib.compact xs ++ List.replicate (xs.length - (Lib.compact xs).length) 0).map (Value.int .i64)).take (Lib.compact xs).length := by rw [h7]
          rw [List.take_take, Nat.min_eq_left hcl, List.map_append, List.take_append_of_le_length (by simp)] at h11
          rw [h11]
          exact List.take_of_length_le (by simp)⟩⟩)
      rw [snoc_eq] at hk
      exact ⟨_, _, _, h10, h8, h9, fun h => by simp at h, hk⟩
  · exact hk.elim
def L12 : List (Nat × SpecT AA) := (85, compT) :: (84, sortT) :: L10
theorem known12 : Known prog L12 := by
  unfold L12
  exact comp_known rfl f55_has comp_none comp_some (sort_known rfl f54_has sort_none sort_some known10)
end Go.Proofs.YtcglahfmnoghjaaGreatDoor

/-! Contracts of what a condition's opening calls: what they say. Conditions: none. -/
namespace Go.Proofs.YtcglahfmnoghjaaGreatDoor
open Go Go.Eng Go.Proofs.Tryz

noncomputable def E12 : Eng AA := EE prog L12
theorem E12_eq : E12 = EE prog L12 := by
  unfold E12
  rfl
def gI (k : IntKind) (sh : List (SO AA)) (s : SV AA) : Option (List Int) := match intsOfS sh s with
  | some (k', xs) => if Go.Eng.kindOk k' k then some xs else none
  | none => none
def cloneILS : LS AA where
  X := List Int
  pre := fun xs => xs.length ≤ 1000000
  args := fun xs => [.rints .i64 xs]
  hin := fun _ => []
  res := fun _ => [.vec 0]
  hout := fun xs => [.ivec 3 .i64 xs]
def cloneIGet (args : List (SV AA)) (sh : List (SO AA)) : Option (List Int) := match args with
  | [s] => gI .i64 sh s
  | _ => none
def L13 : List (Nat × SpecT AA) := (83, tLent cloneILS cloneIGet) :: L12
noncomputable def E13 : Eng AA := EE prog L13

/-- The condition that all of some sign. -/
def allOf (ks : List Int) : List Br := [⟨Lib.compact (sortI ks), List.replicate 32 0, 0, 0⟩]
def allLS : LS AA where
  X := List Int
  pre := fun xs => xs.length ≤ 1000000
  args := fun xs => [.rints .i64 xs]
  hin := fun _ => []
  res := fun ks => [.agg (.cell (.rseq 102 (show List Br from allOf ks)) .nil)]
  hout := fun _ => []
def L14 : List (Nat × SpecT AA) := (36, tLent allLS cloneIGet) :: L13
noncomputable def E14 : Eng AA := EE prog L14

/-- Where a number is first, or -1. -/
def idxI (k : Int) : List Int → Nat → Int
  | [], _ => -1
  | x :: l, n => if k = x then n else idxI k l (n + 1)
def indexILS : LS AA where
  X := List Int × Int
  pre := fun _ => True
  args := fun x => [.rints .i64 x.1, .int .i64 x.2]
  hin := fun _ => []
  res := fun x => [.int .i64 (idxI x.2 x.1 0)]
  hout := fun _ => []
def indexIGet (args : List (SV AA)) (sh : List (SO AA)) : Option (List Int × Int) := match args with
  | [s, k] => match gI .i64 sh s, asI k with
    | some xs, some k => some (xs, k)
    | _, _ => none
  | _ => none
def indexIAnn (x : List Int × Int) : Anns AA := fun _ _ _ => some {
  X := Nat
  inv := fun k => k ≤ x.1.length ∧ x.1.length ≤ 9223372036854775807 ∧ idxI x.2 x.1 0 = idxI x.2 (x.1.drop k) k
  meas := fun k => x.1.length - k
  slots := fun k => [(8, .int .i64 k)]
  heap := fun _ => [] }
def L15 : List (Nat × SpecT AA) := (124, tLent indexILS indexIGet) :: L14
noncomputable def E15 : Eng AA := EE prog L15
def containsILS : LS AA where
  X := List Int × Int
  pre := fun _ => True
  args := fun x => [.rints .i64 x.1, .int .i64 x.2]
  hin := fun _ => []
  res := fun x => [.sb 0 (decide (x.2 ∈ x.1))]
  hout := fun _ => []
def L16 : List (Nat × SpecT AA) := (92, tLent containsILS indexIGet) :: L15
noncomputable def E16 : Eng AA := EE prog L16

/-- What a spend shows. -/
structure Sn where
  signed : List Int
  secret : List Int
  height : Int
  age : Int
def snSL (s : Sn) : SL AA := .cell (.rints .i64 s.signed) (.cell (.rints .u8 s.secret) (.cell (.int .i64 s.height) (.cell (.int .i64 s.age) .nil)))
def decSn (sh : List (SO AA)) : SL AA → Option Sn
  | .cell a (.cell b (.cell c (.cell d .nil))) => match gI .i64 sh a, gI .u8 sh b, asI c, asI d with
    | some x, some y, some z, some u => some ⟨x, y, z, u⟩
    | _, _, _, _ => none
  | _ => none
def missLS : LS AA where
  X := Sn × Int
  pre := fun _ => True
  args := fun x => [.int .i64 x.2, .ptr 0 0]
  hin := fun x => [.cells 100 (snSL x.1)]
  res := fun x => [.sb 0 (!decide (x.2 ∈ x.1.signed))]
  hout := fun x => [.cells 100 (snSL x.1)]
def snAt (sh : List (SO AA)) : SV AA → Option Sn
  | .ptr i 0 => match nth sh i with
    | some (.cells _ cs) => decSn sh (rslL sh cs)
    | _ => none
  | _ => none
def missGet (args : List (SV AA)) (sh : List (SO AA)) : Option (Sn × Int) := match args with
  | [k, p] => match asI k, snAt sh p with
    | some k, some s => some (s, k)
    | _, _ => none
  | _ => none
def L17 : List (Nat × SpecT AA) := (91, tLent missLS missGet) :: L16
noncomputable def E17 : Eng AA := EE prog L17
/-- Where the first key is that nobody signed, or -1. -/
def missIdx (signed : List Int) : List Int → Nat → Int
  | [], _ => -1
  | x :: l, n => if x ∈ signed then missIdx signed l (n + 1) else n
def indexFLS : LS AA where
  X := Sn × List Int
  pre := fun _ => True
  args := fun x => [.rints .i64 x.2, .fn (.func 91) .nil (.cell (.ptr 0 0) .nil)]
  hin := fun x => [.cells 100 (snSL x.1)]
  res := fun x => [.int .i64 (missIdx x.1.signed x.2 0)]
  hout := fun x => [.cells 100 (snSL x.1)]
def indexFGet (args : List (SV AA)) (sh : List (SO AA)) : Option (Sn × List Int) := match args with
  | [k, .fn (.func _) .nil (.cell p .nil)] => match gI .i64 sh k, snAt sh p with
    | some k, some s => some (s, k)
    | _, _ => none
  | _ => none
def indexFAnn (x : Sn × List Int) : Anns AA := fun _ _ _ => some {
  X := Nat
  inv := fun k => k ≤ x.2.length ∧ x.2.length ≤ 9223372036854775807 ∧ missIdx x.1.signed x.2 0 = missIdx x.1.signed (x.2.drop k) k
  meas := fun k => x.2.length - k
  slots := fun k => [(8, .int .i64 k)]
  heap := fun _ => [] }
def L18 : List (Nat × SpecT AA) := (125, tLent indexFLS indexFGet) :: L17
noncomputable def E18 : Eng AA := EE prog L18
def anyFLS : LS AA where
  X := Sn × List Int
  pre := fun _ => True
  args := fun x => [.rints .i64 x.2, .fn (.func 91) .nil (.cell (.ptr 0 0) .nil)]
  hin := fun x => [.cells 100 (snSL x.1)]
  res := fun x => [.sb 0 (decide (missIdx x.1.signed x.2 0 ≥ 0))]
  hout := fun x => [.cells 100 (snSL x.1)]
def L19 : List (Nat × SpecT AA) := (93, tLent anyFLS indexFGet) :: L18
noncomputable def E19 : Eng AA := EE prog L19
end Go.Proofs.YtcglahfmnoghjaaGreatDoor
