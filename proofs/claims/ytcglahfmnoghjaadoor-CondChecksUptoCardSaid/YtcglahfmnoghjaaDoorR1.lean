/- From a row's reading of an argument to the engine's words. Conditions: none. -/
import Derived.Test.YtcglahfmnoghjaaDoorE24
import GoSem.ClaimChange
namespace Go.Eng
open Go
variable {A : Nat → Type}

def NoO : Nat → Prop := fun _ => False
section
variable {H : Type} (enc : TypeId × Value → H) (P : Program) (w : World) (sp : Nat → Bool) (held : Bool) (C : Enc A)
/-- What is read at a type stands for these cells. -/
def RdT (t : TypeId) (F : SL A → DataW H → Prop) : Prop :=
  ∀ fuel cs d ps, DataW.trod enc P w 0 sp held fuel t cs = some (d, ps) → ∃ sl, RepL NoO [] w C sl cs ∧ F sl d
def RdFs (fs : List Field) (o N : Nat) (G : SL A → List (DataW H) → Prop) : Prop :=
  ∀ (fuel : Nat) (cs : List Value) (xs : List (DataW H × List MemPlace)), cs.length = N → fs.mapM (fun f => DataW.trod enc P w 0 sp held fuel f.type ((cs.drop f.offset).take (P.cellsOf f.type))) = some xs → ∃ sl, RepL NoO [] w C sl (cs.drop o) ∧ G sl (xs.map (·.1))
end

def delems {H : Type} : DataW H → List (DataW H)
  | .slice e _ => e
  | _ => []

theorem mapM_some {α β : Type} {f : α → Option β} : ∀ {l : List α} {ys : List β}, l.mapM f = some ys → ys.length = l.length ∧ ∀ (i : Nat) x, l[i]? = some x → ∃ y, ys[i]? = some y ∧ f x = some y
  | [], ys, h => by simp at h; subst h; exact ⟨rfl, fun i x h => by simp at h⟩
  | a :: l, ys, h => by
    rw [List.mapM_cons] at h
    cases hf : f a with
    | none => rw [hf] at h; simp at h
    | some b =>
      cases hl : l.mapM f with
      | none => rw [hf, hl] at h; simp at h
      | some bs =>
        rw [hf, hl] at h
        simp at h
        subst h
        obtain ⟨h1, h2⟩ := mapM_some hl
        refine ⟨by simp [h1], fun i x hx => ?_⟩
        cases i with
        | zero => simp at hx; subst hx; exact ⟨b, rfl, hf⟩
        | succ i => exact h2 i x (by simpa using hx)
theorem list_of {α : Type _} {n : Nat} {Q : Nat → α → Prop} (h : ∀ i, i < n → ∃ y, Q i y) : ∃ ys : List α, ys.length = n ∧ ∀ (i : Nat) y, ys[i]? = some y → Q i y := by
  induction n with
  | zero => exact ⟨[], rfl, fun i y h => by simp at h⟩
  | succ n ih =>
    obtain ⟨ys, h1, h2⟩ := ih (fun i hi => h i (by omega))
    obtain ⟨y, hy⟩ := h n (by omega)
    refine ⟨ys ++ [y], by simp [h1], fun i z hz => ?_⟩
    rcases Nat.lt_or_ge i n with hi | hi
    · rw [List.getElem?_append_left (by omega)] at hz
      exact h2 i z hz
    · rw [List.getElem?_append_right (by omega), h1] at hz
      cases hj : i - n with
      | zero => rw [hj] at hz; simp at hz; subst hz; rw [show i = n from by omega]; exact hy
      | succ m => rw [hj] at hz; simp at hz

section
variable {H : Type} {enc : TypeId × Value → H} {P : Program} {w : World} {sp : Nat → Bool} {held : Bool} {C : Enc A}
theorem notOwned (b : Nat) : ¬ owned [] b := fun ⟨i, x, h, _⟩ => by simp at h

theorem rd_int {t : TypeId} {k : IntKind} (ht : P.underlying t = some (.int k)) : RdT enc P w sp held C t fun sl _ => ∃ n, sl = .cell (.int k n) .nil ∧ (Lit.int k n).wf = true := by
  intro fuel cs d ps h
  cases fuel with
  | zero => simp [DataW.trod] at h
  | succ fuel =>
    unfold DataW.trod at h
    rw [ht] at h
    split at h
    all_goals first | (rename_i e _; cases e; done) | skip
    all_goals first | (rename_i e; cases e; done) | skip
    all_goals first | (cases h; done) | skip
    rename_i k' n e
    cases e
    split at h
    · rename_i hc
      obtain ⟨rfl, hw⟩ := hc
      exact ⟨_, .cell .int .nil, n, rfl, hw⟩
    · cases h

theorem cells?_some {b : Addr} {n : Nat} {vs : List Value} (h : w.cells? 0 b n = some vs) : vs.length = n ∧ ∀ j, j < n → ∃ u, vs[j]? = some u ∧ w.cell? (b.add j) = some u := by
  unfold World.cells? at h
  rw [if_pos (Nat.zero_le _)] at h
  obtain ⟨h1, h2⟩ := mapM_some h
  refine ⟨by simpa using h1, fun j hj => ?_⟩
  obtain ⟨u, h3, h4⟩ := h2 j j (by simp [hj])
  exact ⟨u, h3, h4⟩
theorem cell_spot {a : Addr} {u : Value} (h : w.cell? a = some u) : a.spot = none := by
  unfold World.cell? at h
  split at h
  · split at h
    · cases h
    · rename_i hs; simpa using hs
  · cases h
theorem addr_eq {a : Addr} (h : a.spot = none) : a = ⟨a.block, a.off, none⟩ := by cases a; simp at h; simp [h]
theorem addr_add {a : Addr} (h : a.spot = none) (n : Nat) : a.add n = ⟨a.block, a.off + n, none⟩ := by
  unfold Addr.add
  split
  · rename_i e; subst e; cases a; simp at h; simp [h]
  · rfl

/-- What a slice's reading comes to. -/
theorem trod_slice {t e : TypeId} (ht : P.underlying t = some (.slice e)) {fuel : Nat} {cs : List Value} {d : DataW H} {ps : List MemPlace} (h : DataW.trod enc P w 0 sp held fuel t cs = some (d, ps)) :
    (cs = [.slice none 0 0] ∧ d = .nil) ∨ ∃ a len cap f elems spare, cs = [.slice (some a) len cap] ∧ len ≤ cap ∧ cap ≤ maxLen ∧ d = .slice elems spare ∧ elems.length = len ∧
      ∀ i, i < len → ∃ vs x, w.cells? 0 (a.add (i * P.cellsOf e)) (P.cellsOf e) = some vs ∧ DataW.trod enc P w 0 sp held f e vs = some x ∧ elems[i]? = some x.1 := by
  cases fuel with
  | zero => simp [DataW.trod] at h
  | succ fuel =>
    unfold DataW.trod at h
    rw [ht] at h
    split at h
    all_goals first | (rename_i e _; cases e; done) | skip
    all_goals first | (rename_i e; cases e; done) | skip
    all_goals first | (cases h; done) | skip
    · cases h; exact .inl ⟨rfl, rfl⟩
    · rename_i e' a len cap e1
      cases e1
      simp only [Nat.zero_le, true_and] at h
      split at h
      case isFalse => cases h
      rename_i hc
      rw [Option.bind_eq_some_iff] at h
      obtain ⟨elems, h1, h2⟩ := h
      rw [Option.map_eq_some_iff] at h2
      obtain ⟨rest, _, h3⟩ := h2
      cases h3
      obtain ⟨h4, h5⟩ := mapM_some h1
      refine .inr ⟨a, len, cap, fuel, _, _, rfl, hc.1, hc.2, rfl, by simpa using h4, fun i hi => ?_⟩
      obtain ⟨y, h6, h7⟩ := h5 i i (by simp [hi])
      rw [Option.bind_eq_some_iff] at h7
      obtain ⟨vs, h8, h9⟩ := h7
      exact ⟨vs, y, h8, h9, by simp [h6]⟩

theorem rd_seq {t e : TypeId} {u : Nat} {G : A u → DataW H → Prop} (ht : P.underlying t = some (.slice e)) (hc : P.cellsOf e = C.size u) (hpos : 0 < C.size u)
    (he : RdT enc P w sp held C e fun sl d => ∃ y : A u, sl = C.enc u y ∧ G y d) :
    RdT enc P w sp held C t fun sl d => ∃ ys : List (A u), sl = .cell (.rseq u ys) .nil ∧ ys.length = (delems d).length ∧ ∀ (j : Nat) y d', ys[j]? = some y → (delems d)[j]? = some d' → G y d' := by
  intro fuel cs d ps h
  rcases trod_slice ht h with ⟨rfl, rfl⟩ | ⟨a, len, cap, f, elems, spare, rfl, h1, h2, rfl, h3, h4⟩
  · exact ⟨_, .cell (.rseq (xs := []) none 0 [] (Nat.le_refl _) (by simp [maxLen]) (by simp) (.inl rfl) (fun j x hj => by simp at hj)) .nil, [], rfl, rfl, fun j y d' hj => by simp at hj⟩
  have h5 : ∀ i, i < len → ∃ y : A u, ∃ vs, w.cells? 0 (a.add (i * C.size u)) (C.size u) = some vs ∧ RepL NoO [] w C (C.enc u y) vs ∧ ∀ d', elems[i]? = some d' → G y d' := fun i hi => by
    obtain ⟨vs, x, h6, h7, h8⟩ := h4 i hi
    obtain ⟨sl, h9, y, rfl, h10⟩ := he f vs x.1 x.2 h7
    exact ⟨y, vs, by rw [hc] at h6; exact h6, h9, fun d' hd => by rw [h8] at hd; cases hd; exact h10⟩
  obtain ⟨ys, h6, h7⟩ := list_of h5
  refine ⟨.cell (.rseq u ys) .nil, ?_, ys, rfl, by rw [h6, ← h3]; rfl, fun j y d' hj hd => ?_⟩
  · rcases Nat.eq_zero_or_pos len with h0 | h0
    · subst h0
      have hn : ys = [] := List.eq_nil_of_length_eq_zero h6
      subst hn
      exact .cell (.rseq (xs := []) (some a) cap [] (Nat.zero_le _) h2 (by simp) (.inl rfl) (fun j x hj => by simp at hj)) .nil
    have hspot : a.spot = none := by
      obtain ⟨y, vs, h8, _⟩ := h5 0 h0
      obtain ⟨_, h9⟩ := cells?_some h8
      obtain ⟨v, _, h10⟩ := h9 0 hpos
      have h11 : (a.add (0 * C.size u)).add 0 = a := by simp [Addr.add]
      rw [h11] at h10
      exact cell_spot h10
    have hcell : ∀ j, j < len * C.size u → ∃ v, w.cell? ⟨a.block, a.off + j, none⟩ = some v := fun j hj => by
      have hi : j / C.size u < len := Nat.div_lt_of_lt_mul (by rw [Nat.mul_comm]; exact hj)
      obtain ⟨y, vs, h8, _⟩ := h5 _ hi
      obtain ⟨_, h9⟩ := cells?_some h8
      obtain ⟨v, _, h10⟩ := h9 (j % C.size u) (Nat.mod_lt _ hpos)
      rw [addr_add hspot, addr_add rfl] at h10
      refine ⟨v, ?_⟩
      have := Nat.div_add_mod j (C.size u)
      rw [Nat.mul_comm] at this
      have e : a.off + j = a.off + j / C.size u * C.size u + j % C.size u := by omega
      rw [e]
      exact h10
    obtain ⟨vs, hv1, hv2⟩ := list_of hcell
    have hlen : len = ys.length := h6.symm
    have hrow : ∀ i, i < len → ∀ ws, w.cells? 0 (a.add (i * C.size u)) (C.size u) = some ws → (vs.drop (i * C.size u)).take (C.size u) = ws := fun i hi ws hws => by
      obtain ⟨h9, h10⟩ := cells?_some hws
      apply List.ext_getElem?
      intro j
      rw [List.getElem?_take]
      split
      · rename_i hj
        rw [List.getElem?_drop]
        have hb : i * C.size u + j < len * C.size u := by
          have : (i + 1) * C.size u ≤ len * C.size u := Nat.mul_le_mul_right _ hi
          rw [Nat.add_mul] at this
          omega
        obtain ⟨v, hv, hv'⟩ := h10 j hj
        rw [addr_add hspot, addr_add rfl] at hv'
        rw [hv]
        have hb' : i * C.size u + j < vs.length := by rw [hv1]; exact hb
        have h11 := hv2 _ _ (List.getElem?_eq_getElem hb')
        have e : a.off + (i * C.size u + j) = a.off + i * C.size u + j := by omega
        rw [e] at h11
        rw [List.getElem?_eq_getElem hb', ← hv', ← h11]
      · rename_i hj
        rw [List.getElem?_eq_none (by omega)]
    subst hlen
    refine .cell (.rseq (some a) cap vs h1 h2 hv1 (.inr ⟨a.block, a.off, by rw [← addr_eq hspot], fun h => h, notOwned _, fun j v hj => hv2 j v hj⟩) (fun j y hj => ?_)) .nil
    have hj' : j < ys.length := (List.getElem?_eq_some_iff.1 hj).1
    obtain ⟨ws, h8, h9, _⟩ := h7 j y hj
    rw [hrow j hj' ws h8]
    exact h9
  · obtain ⟨ws, _, _, h8⟩ := h7 j y hj
    exact h8 d' hd

theorem rd_ints {t e : TypeId} {k : IntKind} (ht : P.underlying t = some (.slice e)) (he : P.underlying e = some (.int k)) (hc : P.cellsOf e = 1) :
    RdT enc P w sp held C t fun sl d => ∃ xs : List Int, sl = .cell (.rints k xs) .nil ∧ xs.length = (delems d).length ∧ ∀ x, x ∈ xs → (Lit.int k x).wf = true := by
  intro fuel cs d ps h
  rcases trod_slice ht h with ⟨rfl, rfl⟩ | ⟨a, len, cap, f, elems, spare, rfl, h1, h2, rfl, h3, h4⟩
  · exact ⟨_, .cell (.rints (xs := []) none 0 (Nat.le_refl _) (by simp [maxLen]) (.inl rfl)) .nil, [], rfl, rfl, fun x hx => by simp at hx⟩
  have h5 : ∀ i, i < len → ∃ n : Int, w.cell? (a.add i) = some (.int k n) ∧ (Lit.int k n).wf = true := fun i hi => by
    obtain ⟨vs, x, h6, h7, h8⟩ := h4 i hi
    obtain ⟨sl, h9, n, rfl, h10⟩ := rd_int (C := C) he f vs x.1 x.2 h7
    obtain ⟨v, us, rfl, h11, h12⟩ := h9.inv_cell
    have := h11.inv_int
    subst this
    obtain ⟨_, h13⟩ := cells?_some h6
    obtain ⟨v, h14, h15⟩ := h13 0 (by omega)
    simp at h14
    subst h14
    rw [hc, Nat.mul_one, show (a.add i).add 0 = a.add i from by simp [Addr.add]] at h15
    exact ⟨n, h15, h10⟩
  obtain ⟨xs, h6, h7⟩ := list_of h5
  have hlen : len = xs.length := h6.symm
  subst hlen
  refine ⟨.cell (.rints k xs) .nil, ?_, xs, rfl, h3.symm, fun x hx => ?_⟩
  · rcases Nat.eq_zero_or_pos xs.length with h0 | h0
    · have hn : xs = [] := List.eq_nil_of_length_eq_zero h0
      subst hn
      exact .cell (.rints (xs := []) (some a) cap (Nat.zero_le _) h2 (.inl rfl)) .nil
    have hspot : a.spot = none := by
      obtain ⟨n, h8, _⟩ := h5 0 h0
      rw [show a.add 0 = a from by simp [Addr.add]] at h8
      exact cell_spot h8
    refine .cell (.rints (some a) cap h1 h2 (.inr ⟨a.block, a.off, by rw [← addr_eq hspot], fun h => h, notOwned _, fun j v hj => ?_⟩)) .nil
    rw [List.getElem?_map, Option.map_eq_some_iff] at hj
    obtain ⟨n, hn, rfl⟩ := hj
    have := (h7 j n hn).1
    rwa [addr_add hspot] at this
  · obtain ⟨i, hi⟩ := List.getElem?_of_mem hx
    exact (h7 i x hi).2

theorem rd_fs_nil {o N : Nat} (h : N ≤ o) : RdFs (A := A) enc P w sp held C [] o N fun sl ds => sl = .nil ∧ ds = [] := by
  intro fuel cs xs hl hm
  simp at hm
  subst hm
  rw [List.drop_of_length_le (by omega)]
  exact ⟨.nil, .nil, rfl, rfl⟩
theorem rd_fs_cons {f : Field} {fs : List Field} {o N : Nat} {F : SL A → DataW H → Prop} {G : SL A → List (DataW H) → Prop} (ho : f.offset = o) (hf : RdT enc P w sp held C f.type F) (hfs : RdFs enc P w sp held C fs (o + P.cellsOf f.type) N G) :
    RdFs enc P w sp held C (f :: fs) o N fun sl ds => ∃ s1 s2 d ds', sl = s1.app s2 ∧ ds = d :: ds' ∧ F s1 d ∧ G s2 ds' := by
  intro fuel cs xs hl hm
  rw [List.mapM_cons] at hm
  cases h1 : DataW.trod enc P w 0 sp held fuel f.type ((cs.drop f.offset).take (P.cellsOf f.type)) with
  | none => rw [h1] at hm; simp at hm
  | some x =>
    cases h2 : fs.mapM (fun f => DataW.trod enc P w 0 sp held fuel f.type ((cs.drop f.offset).take (P.cellsOf f.type))) with
    | none => rw [h1, h2] at hm; simp at hm
    | some ys =>
      rw [h1, h2] at hm
      simp at hm
      subst hm
      obtain ⟨s1, h3, h4⟩ := hf _ _ _ _ h1
      obtain ⟨s2, h5, h6⟩ := hfs _ _ _ hl h2
      refine ⟨s1.app s2, ?_, s1, s2, x.1, ys.map (·.1), rfl, rfl, h4, h6⟩
      have := h3.app h5
      rw [ho] at this
      rwa [← List.drop_drop, List.take_append_drop] at this
theorem rd_struct {t : TypeId} {fs : Array Field} {G : SL A → List (DataW H) → Prop} (ht : P.underlying t = some (.struct fs)) (h : RdFs enc P w sp held C fs.toList 0 (P.cellsOf t) G) :
    RdT enc P w sp held C t fun sl d => ∃ ds, d = .agg ds ∧ G sl ds := by
  intro fuel cs d ps hd
  cases fuel with
  | zero => simp [DataW.trod] at hd
  | succ fuel =>
    simp only [DataW.trod, ht] at hd
    split at hd
    case isFalse => cases hd
    rename_i hl
    rw [Option.map_eq_some_iff] at hd
    obtain ⟨xs, h1, h2⟩ := hd
    cases h2
    obtain ⟨sl, h3, h4⟩ := h _ _ _ hl h1
    exact ⟨sl, by simpa using h3, _, rfl, h4⟩
theorem rd_arr {t e : TypeId} {n : Nat} {k : IntKind} (ht : P.underlying t = some (.array n e)) (he : P.underlying e = some (.int k)) (hc : P.cellsOf e = 1) (hn : P.cellsOf t = n) :
    RdT enc P w sp held C t fun sl _ => ∃ xs : List Int, sl = .run k n xs .nil ∧ xs.length = n ∧ ∀ x, x ∈ xs → (Lit.int k x).wf = true := by
  intro fuel cs d ps hd
  cases fuel with
  | zero => simp [DataW.trod] at hd
  | succ fuel =>
    simp only [DataW.trod, ht] at hd
    split at hd
    case isFalse => cases hd
    rename_i hl
    rw [hn] at hl
    rw [Option.map_eq_some_iff] at hd
    obtain ⟨ys, h1, _⟩ := hd
    obtain ⟨h2, h3⟩ := mapM_some h1
    have h5 : ∀ i, i < n → ∃ m : Int, cs[i]? = some (.int k m) ∧ (Lit.int k m).wf = true := fun i hi => by
      obtain ⟨y, _, h7⟩ := h3 i i (by simp [hi])
      obtain ⟨sl, h9, m, rfl, h10⟩ := rd_int (C := C) he _ _ _ _ h7
      obtain ⟨v, us, h12, h11, _⟩ := h9.inv_cell
      have := h11.inv_int
      subst this
      refine ⟨m, ?_, h10⟩
      have h13 : ((cs.drop (i * P.cellsOf e)).take (P.cellsOf e))[0]? = some (.int k m) := by rw [h12]; rfl
      rw [hc] at h13
      simpa using h13
    obtain ⟨xs, h6, h7⟩ := list_of h5
    refine ⟨.run k n xs .nil, ?_, xs, rfl, h6, fun x hx => ?_⟩
    · have : cs = xs.map (Value.int k) ++ [] := by
        apply List.ext_getElem?
        intro j
        rw [List.append_nil, List.getElem?_map]
        rcases Nat.lt_or_ge j n with hj | hj
        · have hj' : j < xs.length := by omega
          rw [(h7 j _ (List.getElem?_eq_getElem hj')).1, List.getElem?_eq_getElem hj']; rfl
        · rw [List.getElem?_eq_none (by omega), List.getElem?_eq_none (by omega)]; rfl
      rw [this]
      exact .run h6 .nil
    · obtain ⟨i, hi⟩ := List.getElem?_of_mem hx
      exact (h7 i x hi).2
end
end Go.Eng
