/- The engine is right: a function that is handed no memory to write in, called from anywhere. Conditions: none. -/
import Derived.Test.YtcglahfmnoghjaaDoorE22
namespace Go.Eng
open Go
variable {A : Nat → Type}

mutual
/-- Other numbers for the heap's entries. -/
def ren (f : Nat → Nat) : SV A → SV A
  | .ptr i o => .ptr (f i) o
  | .aptr i o n j => .aptr (f i) o n j
  | .asl i o n => .asl (f i) o n
  | .vec i => .vec (f i)
  | .vptr i j s o => .vptr (f i) j s o
  | .rptr cs o => .rptr (renL f cs) o
  | .iface t v => .iface t (ren f v)
  | .fn g a b => .fn g (renL f a) (renL f b)
  | .agg cs => .agg (renL f cs)
  | .tup cs => .tup (renL f cs)
  | s => s
def renL (f : Nat → Nat) : SL A → SL A
  | .nil => .nil
  | .cell v r => .cell (ren f v) (renL f r)
  | .run k n xs r => .run k n xs (renL f r)
end
def renO (f : Nat → Nat) : SO A → SO A
  | .cells e cs => .cells e (renL f cs)
  | .fr s => .fr (ren f s)
  | o => o
def renOs (f : Nat → Nat) : List (SO A) → List (SO A)
  | [] => []
  | o :: l => renO f o :: renOs f l
theorem renOs_eq (f : Nat → Nat) : ∀ l : List (SO A), renOs f l = l.map (renO f)
  | [] => rfl
  | o :: l => by simp [renOs, renOs_eq f l]

mutual
def plainV : SV A → Bool
  | .int _ _ => true
  | .lit _ _ => true
  | .bl _ => true
  | .sb _ _ => true
  | .val _ => true
  | .err _ _ => true
  | .undef => true
  | .agg cs => plainL cs
  | .tup cs => plainL cs
  | _ => false
def plainL : SL A → Bool
  | .nil => true
  | .cell v r => if plainV v then plainL r else false
  | .run _ _ _ r => plainL r
end

def letGos (sh : List (SO A)) : List (SV A) → Option (List (SV A) × List (SO A))
  | [] => some ([], sh)
  | v :: l => match letGoV sh v with
    | some (v', sh1) => match letGos sh1 l with
      | some (l', sh2) => some (v' :: l', sh2)
      | none => none
    | none => none

def eqva : List (SV A) → List (SV A) → Prop
  | [], [] => True
  | a :: r, b :: s => eqv a b ∧ eqva r s
  | _, _ => False

def belowVs (n : Nat) : List (SV A) → Bool
  | [] => true
  | v :: l => if belowV n v then belowVs n l else false

/-- What a caller knows of a call. -/
def tOf (L : LS A) (get : List (SV A) → Option L.X) : SpecT A := fun args sh K => match letGos sh args with
  | some (args', sh1) => match get args' with
    | some x => L.pre x ∧ (match L.hout x with
      | [] => if plainV (resV (L.res x)) then K (resV (L.res x)) sh else K (resV (L.res x)) sh1
      | l => K (ren (fun i => cnt sh1 + i) (resV (L.res x))) (joinL sh1 (renOs (fun i => cnt sh1 + i) l)))
    | none => False
  | none => False

section
variable {O O2 : Nat → Prop} {env env2 : List Wit} {w w2 : World} {C : Enc A}

mutual
theorem Rep.plain : ∀ {s : SV A} {v : Value}, plainV s = true → Rep O env w C s v → Rep O2 env2 w2 C s v
  | _, _, _, .undef => .undef
  | _, _, _, .val => .val
  | _, _, _, .int => .int
  | _, _, _, .lit => .lit
  | _, _, _, .bl => .bl
  | _, _, _, .sb => .sb
  | _, _, _, .err h => .err h
  | _, _, hp, .agg vs h => .agg vs (RepL.plain (by simp only [plainV] at hp; exact hp) h)
  | _, _, hp, .tup vs h => .tup vs (RepL.plain (by simp only [plainV] at hp; exact hp) h)
  | _, _, hp, .junk => by simp [plainV] at hp
  | _, _, hp, .ptr _ => by simp [plainV] at hp
  | _, _, hp, .aptr _ => by simp [plainV] at hp
  | _, _, hp, .asl _ => by simp [plainV] at hp
  | _, _, hp, .rptr _ _ _ _ _ _ _ _ => by simp [plainV] at hp
  | _, _, hp, .rints _ _ _ _ _ => by simp [plainV] at hp
  | _, _, hp, .rseq _ _ _ _ _ _ _ _ => by simp [plainV] at hp
  | _, _, hp, .vec _ => by simp [plainV] at hp
  | _, _, hp, .vptr _ => by simp [plainV] at hp
  | _, _, hp, .iface _ => by simp [plainV] at hp
  | _, _, hp, .fn _ _ _ _ => by simp [plainV] at hp
theorem RepL.plain : ∀ {cs : SL A} {vs : List Value}, plainL cs = true → RepL O env w C cs vs → RepL O2 env2 w2 C cs vs
  | _, _, _, .nil => .nil
  | _, _, hp, .cell h hr => .cell (Rep.plain (by simp only [plainL] at hp; exact (ite_and hp).1) h) (RepL.plain (by simp only [plainL] at hp; exact (ite_and hp).2) hr)
  | _, _, hp, .run hn hr => .run hn (RepL.plain (by simp only [plainL] at hp; exact hp) hr)
end

theorem blkAt.ren {f : Nat → Nat} {n : Nat} (hE : ∀ i, i < n → env2[f i]? = env[i]?) {i : Nat} (hi : i < n) {P : Nat → Prop} (h : blkAt env i P) : blkAt env2 (f i) P := by
  unfold blkAt at *; rw [hE i hi]; exact h
theorem slAt.ren {f : Nat → Nat} {n : Nat} (hE : ∀ i, i < n → env2[f i]? = env[i]?) {i : Nat} (hi : i < n) {P : Value → Prop} (h : slAt env i P) : slAt env2 (f i) P := by
  unfold slAt at *; rw [hE i hi]; exact h

mutual
/-- From one heap into another. -/
theorem Rep.ren {f : Nat → Nat} {n : Nat} (hC : ∀ t y, belowL 0 (C.enc t y) = true) (hO : ∀ b, ¬ O b → ¬ owned env b → ¬ O2 b ∧ ¬ owned env2 b) (hE : ∀ i, i < n → env2[f i]? = env[i]?) : ∀ {s : SV A} {v : Value}, belowV n s = true → Rep O env w C s v → Rep O2 env2 w C (ren f s) v
  | _, _, _, .junk => by simp only [Eng.ren]; exact .junk
  | _, _, _, .undef => by simp only [Eng.ren]; exact .undef
  | _, _, _, .val => by simp only [Eng.ren]; exact .val
  | _, _, _, .int => by simp only [Eng.ren]; exact .int
  | _, _, _, .lit => by simp only [Eng.ren]; exact .lit
  | _, _, _, .bl => by simp only [Eng.ren]; exact .bl
  | _, _, _, .sb => by simp only [Eng.ren]; exact .sb
  | _, _, _, .err h => by simp only [Eng.ren]; exact .err h
  | _, _, hb, .ptr h => by simp only [Eng.ren]; exact .ptr (h.ren hE (ite_tt (by simp only [belowV] at hb; exact hb)))
  | _, _, hb, .aptr h => by simp only [Eng.ren]; exact .aptr (h.ren hE (ite_tt (by simp only [belowV] at hb; exact hb)))
  | _, _, hb, .asl h => by simp only [Eng.ren]; exact .asl (h.ren hE (ite_tt (by simp only [belowV] at hb; exact hb)))
  | _, _, hb, .vec h => by simp only [Eng.ren]; exact .vec (h.ren hE (ite_tt (by simp only [belowV] at hb; exact hb)))
  | _, _, hb, .vptr h => by simp only [Eng.ren]; exact .vptr (h.ren hE (ite_tt (by simp only [belowV] at hb; exact hb)))
  | _, _, hb, .rptr b o vs h1 h2 hl hcl h => by simp only [Eng.ren]; exact .rptr b o vs (hO b h1 h2).1 (hO b h1 h2).2 hl hcl (RepL.ren hC hO hE (by simp only [belowV] at hb; exact hb) h)
  | _, _, _, .rints a c h1 h2 h => by simp only [Eng.ren]; exact .rints a c h1 h2 (h.far hO)
  | _, _, _, .rseq a c vs h1 h2 h3 h hx => by simp only [Eng.ren]; exact .rseq a c vs h1 h2 h3 (h.far hO) (fun j x hj => RepL.closed hC hO (hC _ _) (hx j x hj))
  | _, _, hb, .iface h => by simp only [Eng.ren]; exact .iface (Rep.ren hC hO hE (by simp only [belowV] at hb; exact hb) h)
  | _, _, hb, .fn us vs ha hb' => by simp only [Eng.ren]; exact .fn us vs (RepL.ren hC hO hE (by simp only [belowV] at hb; exact (ite_and hb).1) ha) (RepL.ren hC hO hE (by simp only [belowV] at hb; exact (ite_and hb).2) hb')
  | _, _, hb, .agg vs h => by simp only [Eng.ren]; exact .agg vs (RepL.ren hC hO hE (by simp only [belowV] at hb; exact hb) h)
  | _, _, hb, .tup vs h => by simp only [Eng.ren]; exact .tup vs (RepL.ren hC hO hE (by simp only [belowV] at hb; exact hb) h)
theorem RepL.ren {f : Nat → Nat} {n : Nat} (hC : ∀ t y, belowL 0 (C.enc t y) = true) (hO : ∀ b, ¬ O b → ¬ owned env b → ¬ O2 b ∧ ¬ owned env2 b) (hE : ∀ i, i < n → env2[f i]? = env[i]?) : ∀ {cs : SL A} {vs : List Value}, belowL n cs = true → RepL O env w C cs vs → RepL O2 env2 w C (renL f cs) vs
  | _, _, _, .nil => by simp only [Eng.renL]; exact .nil
  | _, _, hb, .cell h hr => by simp only [Eng.renL]; exact .cell (Rep.ren hC hO hE (by simp only [belowL] at hb; exact (ite_and hb).1) h) (RepL.ren hC hO hE (by simp only [belowL] at hb; exact (ite_and hb).2) hr)
  | _, _, hb, .run hn hr => by simp only [Eng.renL]; exact .run hn (RepL.ren hC hO hE (by simp only [belowL] at hb; exact hb) hr)
end
theorem ORep.ren {f : Nat → Nat} {n : Nat} (hC : ∀ t y, belowL 0 (C.enc t y) = true) (hO : ∀ b, ¬ O b → ¬ owned env b → ¬ O2 b ∧ ¬ owned env2 b) (hE : ∀ i, i < n → env2[f i]? = env[i]?) {a : SO A} {x : Wit} (hb : belowO n a = true) (h : ORep O env w C a x) : ORep O2 env2 w C (renO f a) x := by
  cases a with
  | dead => exact h
  | cells e cs =>
    cases x with
    | blk b => obtain ⟨vs, h1, h2⟩ := h; exact ⟨vs, h1, h2.ren hC hO hE hb⟩
    | dead => exact h
    | ro v => exact h
    | sl v => exact h
  | fr s => cases x with
    | ro v => exact Rep.ren hC hO hE hb h
    | dead => exact h
    | blk v => exact h
    | sl v => exact h
  | ivec e k xs => cases x <;> exact h
  | svec e xs =>
    cases x with
    | sl v => obtain ⟨vs, h1, h2⟩ := h; exact ⟨vs, h1, fun j y hj => (h2 j y hj).closed hC hO (hC _ _)⟩
    | dead => exact h
    | ro v => exact h
    | blk b => exact h

theorem letGos_spec : ∀ {l l' : List (SV A)} {sh sh' : List (SO A)} {env : List Wit} {vs : List Value}, HR O env w C sh → letGos sh l = some (l', sh') → ArgsR O env w C l vs →
    ∃ env', HR O env' w C sh' ∧ Step env w env' w ∧ ArgsR O env' w C l' vs
  | [], _, _, _, env, vs, hh, h, hr => by
    simp only [letGos, Option.some.injEq, Prod.mk.injEq] at h
    obtain ⟨rfl, rfl⟩ := h
    exact ⟨env, hh, Step.refl _ _, hr⟩
  | s :: l, _, sh, _, env, vs, hh, h, hr => by
    simp only [letGos] at h
    split at h
    · rename_i s' sh1 h1
      split at h
      · rename_i r' sh2 h2
        cases h
        obtain ⟨u, us, rfl, h3, h4⟩ := hr
        obtain ⟨env1, h5, h6, h7⟩ := letGoV_spec hh h1 h3
        obtain ⟨env2, h8, h9, h10⟩ := letGos_spec h5 h2 (argsR_step h6 h4)
        exact ⟨env2, h8, h6.trans h9, u, us, rfl, h7.step h9, h10⟩
      · cases h
    · cases h

theorem eqva_rep : ∀ {l m : List (SV A)} {vs : List Value}, eqva l m → ArgsR O env w C m vs → ArgsR O env w C l vs
  | [], [], _, _, h => h
  | a :: r, b :: s, _, h, ⟨u, us, e, h1, h2⟩ => ⟨u, us, e, eqv_rep h.1 h1, eqva_rep h.2 h2⟩
  | [], _ :: _, _, h, _ => by simp [eqva] at h
  | _ :: _, [], _, h, _ => by simp [eqva] at h

theorem argsR_closed (hC : ∀ t y, belowL 0 (C.enc t y) = true) (hO : ∀ b, ¬ O b → ¬ owned env b → ¬ O2 b ∧ ¬ owned env2 b) : ∀ {l : List (SV A)} {vs : List Value}, belowVs 0 l = true → ArgsR O env w C l vs → ArgsR O2 env2 w C l vs
  | [], _, _, h => h
  | a :: r, _, hb, ⟨u, us, e, h1, h2⟩ => by
    simp only [belowVs] at hb
    exact ⟨u, us, e, h1.closed hC hO (ite_and hb).1, argsR_closed hC hO (ite_and hb).2 h2⟩
end

theorem belowOs_get {n : Nat} : ∀ {l : List (SO A)}, belowOs n l = true → ∀ (i : Nat) a, l[i]? = some a → belowO n a = true
  | [], _, i, a, h => by simp at h
  | x :: l, hb, i, a, h => by
    simp only [belowOs] at hb
    obtain ⟨h1, h2⟩ := ite_and hb
    cases i with
    | zero => simp at h; subst h; exact h1
    | succ i => exact belowOs_get h2 i a (by simpa using h)

/-- A contract that needs no memory of its caller's. -/
structure Pure (L : LS A) (get : List (SV A) → Option L.X) : Prop where
  hin : ∀ x, L.hin x = []
  got : ∀ args x, get args = some x → eqva (L.args x) args
  closed : ∀ x, belowVs 0 (L.args x) = true

section
variable {E : Eng A}
theorem meets_pure (hS : Sound E) (hG : ∀ g cs, E.GL g = some cs → belowL 0 cs = true) {f : FuncId} {fn : Func} {body : Code} (hf : E.P.funcs[f]? = some fn) (hname : (fn.name == "runtime.NumGoroutine") = false) (hb : fn.body = some body) {L : LS A} {ann : L.X → Anns A} {get : List (SV A) → Option L.X}
    (hL : fnS E fn body L ann) (hp : Pure L get) (q : Bool) : Meets E.P E.C E.GL q f (tOf L get) := by
  intro args sh K hk O env w vs ha hh hg
  have hC := hS.below 0
  unfold tOf at hk
  split at hk
  case h_2 => exact hk.elim
  rename_i args' sh1 hl
  split at hk
  case h_2 => exact hk.elim
  rename_i x hx
  obtain ⟨hpre, hk⟩ := hk
  obtain ⟨env1, hh1, hs1, ha1⟩ := letGos_spec hh hl ha
  have ha2 := eqva_rep (hp.got _ _ hx) ha1
  have hO : ∀ b, ¬ O b → ¬ owned env1 b → ¬ (O b ∨ owned env1 b) ∧ ¬ owned [] b := fun b h1 h2 => ⟨fun h => h.elim h1 h2, fun ⟨i, x, h, _⟩ => by simp at h⟩
  have ha3 := argsR_closed (O2 := fun b => O b ∨ owned env1 b) (env2 := []) hC hO (hp.closed x) ha2
  have hhc : HR (fun b => O b ∨ owned env1 b) [] w E.C (L.hin x) := by
    rw [hp.hin]
    exact ⟨rfl, fun i so x h _ => by simp at h, fun i j x y b h _ _ _ => by simp at h, fun b ⟨i, x, h, _⟩ => by simp at h, fun b ⟨i, x, h, _⟩ => by simp at h, fun b h => h.elim (hh1.olt b) (hh1.lt b)⟩
  have hgc : Glob E.GL (fun b => O b ∨ owned env1 b) [] w E.C := fun g cs h => (hg.step hs1 g cs h).closed hC hO (by simp only [belowV]; exact hG g cs h)
  have hcall := fn_local hS hf hname hb hL (fun x _ => by rw [hp.hin]; simp) hpre ha3 hhc hgc
  intro o a next Q hn
  refine hcall o a next Q (fun v w' ⟨envc, hr, hhr, hst, hbv, hbo⟩ => hn v w' ?_)
  have hold : ∀ b, b < w.heap.size → w'.heap[b]? = w.heap[b]? := fun b hb => hst.cells b hb (fun ⟨i, x, h, _⟩ => by simp at h)
  have hout : ∀ b, owned envc b → ¬ O b ∧ ¬ owned env1 b := fun b h => ⟨fun h1 => hhr.out b h (.inl h1), fun h1 => hhr.out b h (.inr h1)⟩
  have hstep : ∀ env0, (∀ b, owned env0 b → b < w.heap.size) → Step env0 w (env0 ++ envc) w' := fun env0 h0 =>
    ⟨hst.os, hst.tape, hst.output, hst.size, by simp, fun i x hx => ⟨x, by rw [List.getElem?_append_left (List.getElem?_eq_some_iff.1 hx).1]; exact hx, .refl x⟩,
      fun b ⟨i, x, hx, ho⟩ => by
        rcases Nat.lt_or_ge i env0.length with hi | hi
        · rw [List.getElem?_append_left hi] at hx; exact .inl ⟨i, x, hx, ho⟩
        · rw [List.getElem?_append_right hi] at hx
          exact .inr ((hst.fresh b ⟨_, x, hx, ho⟩).elim (fun ⟨i, x, h, _⟩ => by simp at h) id),
      fun b hb _ => hold b hb⟩
  have hown : ∀ b, owned (env1 ++ envc) b → owned env1 b ∨ owned envc b := fun b ⟨i, x, hx, ho⟩ => by
    rcases Nat.lt_or_ge i env1.length with hi | hi
    · rw [List.getElem?_append_left hi] at hx; exact .inl ⟨i, x, hx, ho⟩
    · rw [List.getElem?_append_right hi] at hx; exact .inr ⟨_, x, hx, ho⟩
  have hjoin : HR O (env1 ++ envc) w' E.C (sh1 ++ (L.hout x).map (renO fun i => sh1.length + i)) := by
    have hst1 := hstep env1 hh1.lt
    refine ⟨by simp [hh1.len, hhr.len], fun i so x h1 h2 => ?_, fun i j y z b h1 h2 h3 h4 => ?_, fun b hb => ?_, fun b hb => ?_, fun b hb => Nat.lt_of_lt_of_le (hh1.olt b hb) hst.size⟩
    · rcases Nat.lt_or_ge i env1.length with hi | hi
      · rw [List.getElem?_append_left (by rw [hh1.len]; exact hi)] at h1
        rw [List.getElem?_append_left hi] at h2
        exact (hh1.rep i so x h1 h2).step hst1 (fun b hb => hold b (hh1.lt b ⟨i, x, h2, hb⟩))
      · rw [List.getElem?_append_right (by rw [hh1.len]; exact hi)] at h1
        rw [List.getElem?_append_right hi] at h2
        rw [hh1.len, List.getElem?_map] at h1
        cases ho : (L.hout _)[i - env1.length]? with
        | none => rw [ho] at h1; simp at h1
        | some so' =>
          rw [ho] at h1
          simp only [Option.map_some, Option.some.injEq] at h1
          subst h1
          have h3 := hhr.rep _ so' x ho h2
          refine h3.ren (n := (L.hout _).length) hC (fun b h4 h5 => ⟨fun h6 => h4 (.inl h6), fun h6 => (hown b h6).elim (fun h7 => h4 (.inr h7)) h5⟩) (fun j hj => ?_) (belowOs_get hbo _ _ ho)
          rw [List.getElem?_append_right (by omega)]
          congr 1; omega
    · have key : ∀ (i : Nat) y, (env1 ++ envc)[i]? = some y → y.owns b → (i < env1.length ∧ env1[i]? = some y) ∨ (env1.length ≤ i ∧ envc[i - env1.length]? = some y) := by
        intro i y h _
        rcases Nat.lt_or_ge i env1.length with hi | hi
        · rw [List.getElem?_append_left hi] at h; exact .inl ⟨hi, h⟩
        · rw [List.getElem?_append_right hi] at h; exact .inr ⟨hi, h⟩
      rcases key i y h1 h3 with ⟨h5, h6⟩ | ⟨h5, h6⟩ <;> rcases key j z h2 h4 with ⟨h7, h8⟩ | ⟨h7, h8⟩
      · exact hh1.disj i j y z b h6 h8 h3 h4
      · exact ((hout b ⟨_, z, h8, h4⟩).2 ⟨i, y, h6, h3⟩).elim
      · exact ((hout b ⟨_, y, h6, h3⟩).2 ⟨j, z, h8, h4⟩).elim
      · have := hhr.disj _ _ y z b h6 h8 h3 h4; omega
    · rcases hown b hb with h | h
      · exact hh1.out b h
      · exact (hout b h).1
    · rcases hown b hb with h | h
      · exact Nat.lt_of_lt_of_le (hh1.lt b h) hst.size
      · exact hhr.lt b h
  have hrep : Rep O (env1 ++ envc) w' E.C (ren (fun i => sh1.length + i) (resV (L.res x))) v := by
    refine hr.ren (n := (L.hout x).length) hC (fun b h4 h5 => ⟨fun h6 => h4 (.inl h6), fun h6 => (hown b h6).elim (fun h7 => h4 (.inr h7)) h5⟩) (fun j hj => ?_) hbv
    show (env1 ++ envc)[sh1.length + j]? = _
    rw [hh1.len, List.getElem?_append_right (by omega)]
    congr 1; omega
  split at hk
  · rename_i hnil
    have henvc : envc = [] := by
      have := hhr.len
      rw [hnil] at this
      exact List.eq_nil_of_length_eq_zero this.symm
    subst henvc
    split at hk
    · rename_i hpl
      have hs0 : Step env w env w' := by simpa using hstep env hh.lt
      refine ⟨_, sh, env, Rep.plain hpl hr, ⟨hh.len, fun i so y h1 h2 => (hh.rep i so y h1 h2).step hs0 (fun b hb => hold b (hh.lt b ⟨i, y, h2, hb⟩)), hh.disj, hh.out, fun b hb => Nat.lt_of_lt_of_le (hh.lt b hb) hst.size, fun b hb => Nat.lt_of_lt_of_le (hh.olt b hb) hst.size⟩, hs0, fun _ => ⟨hst.size, hold⟩, hk⟩
    · simp only [List.append_nil, hnil, List.map_nil] at hjoin
      have hs2 : Step env w env1 w' := hs1.trans (by simpa using hstep env1 hh1.lt)
      refine ⟨_, sh1, env1, Rep.closed hC (fun b h1 h2 => ⟨fun h => h1 (.inl h), fun h => h1 (.inr h)⟩) (by rw [hnil] at hbv; exact hbv) hr, hjoin, hs2, fun _ => ⟨hst.size, hold⟩, hk⟩
  · rw [cnt_eq, joinL_eq, renOs_eq] at hk
    exact ⟨_, _, _, hrep, hjoin, hs1.trans (hstep env1 hh1.lt), fun _ => ⟨hst.size, hold⟩, hk⟩
end

/-- A contract with two ends. -/
structure LS2 (A : Nat → Type) where
  X : Type
  c : X → Bool
  args : X → List (SV A)
  yes : X → List (SV A)
  no : X → List (SV A)
def LS2.one (L : LS2 A) (b : Bool) : LS A where
  X := L.X
  pre := fun x => L.c x = b
  args := L.args
  hin := fun _ => []
  res := fun x => match b with
    | true => L.yes x
    | false => L.no x
  hout := fun _ => []
def tIf (L : LS2 A) (get : List (SV A) → Option L.X) : SpecT A := fun args sh K => match letGos sh args with
  | some (args', sh1) => match get args' with
    | some x => (L.c x = true → if plainV (resV (L.yes x)) then K (resV (L.yes x)) sh else K (resV (L.yes x)) sh1) ∧
      (L.c x = false → if plainV (resV (L.no x)) then K (resV (L.no x)) sh else K (resV (L.no x)) sh1)
    | none => False
  | none => False
theorem meets_if {P : Program} {C : Enc A} {GL : Nat → Option (SL A)} {q : Bool} {f : FuncId} {L : LS2 A} {get : List (SV A) → Option L.X}
    (h1 : Meets P C GL q f (tOf (L.one true) get)) (h2 : Meets P C GL q f (tOf (L.one false) get)) : Meets P C GL q f (tIf L get) := by
  intro args sh K hk
  unfold tIf at hk
  split at hk
  case h_2 => exact hk.elim
  rename_i args' sh1 hl
  split at hk
  case h_2 => exact hk.elim
  rename_i x hx
  cases hc : L.c x with
  | true =>
    refine h1 args sh K ?_
    unfold tOf
    rw [hl]
    simp only
    have hx' : get args' = some x := hx
    rw [show (get args' : Option (L.one true).X) = some x from hx']
    exact ⟨hc, hk.1 hc⟩
  | false =>
    refine h2 args sh K ?_
    unfold tOf
    rw [hl]
    simp only
    have hx' : get args' = some x := hx
    rw [show (get args' : Option (L.one false).X) = some x from hx']
    exact ⟨hc, hk.2 hc⟩
end Go.Eng
