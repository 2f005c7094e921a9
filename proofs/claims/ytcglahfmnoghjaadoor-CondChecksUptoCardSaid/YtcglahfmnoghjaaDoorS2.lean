/- Sorting and striking equal neighbours: what a caller knows of them. Conditions: none. -/
import Derived.Test.YtcglahfmnoghjaaDoorK12
import Derived.Test.YtcglahfmnoghjaaDoorS1
namespace Go.Proofs.YtcglahfmnoghjaaDoor
open Go Go.Eng Go.Proofs.Tryd

section
variable {A : Nat → Type} {O : Nat → Prop} {env : List Wit} {w w' : World} {C : Enc A} {sh : List (SO A)}
/-- A vector whose block was written, where it is. -/
theorem vec_same (h : HR O env w C sh) {i : Nat} {v : Value} (hb : env[i]? = some (.sl v)) (hg : w.grownBy w' v.ownBlock) (so : SO A) (hr : ∀ (_ : Step env w env w'), ORep O env w' C so (.sl v)) :
    HR O env w' C (setNth sh i so) ∧ Step env w env w' := by
  have hs : Step env w env w' := ⟨hg.os, hg.tape, hg.output, hg.size, Nat.le_refl _, fun _ x h => ⟨x, h, .refl x⟩, fun _ h => .inl h, fun b hb' hn => hg.block b hb' (fun e => hn ⟨i, _, hb, e.symm⟩)⟩
  refine ⟨⟨by simp [setNth_eq, h.len], fun j so' x h1 h2 => ?_, h.disj, h.out, fun b hb' => Nat.lt_of_lt_of_le (h.lt b hb') hg.size, fun b hb' => Nat.lt_of_lt_of_le (h.olt b hb') hg.size⟩, hs⟩
  rw [setNth_eq] at h1
  by_cases e : i = j
  · subst e
    have hl : i < sh.length := by have := (List.getElem?_eq_some_iff.1 h1).1; simpa using this
    rw [List.getElem?_set_self hl] at h1
    rw [hb] at h2
    cases h1; cases h2
    exact hr hs
  · rw [List.getElem?_set_ne e] at h1
    exact (h.rep j so' x h1 h2).step hs (fun b hb' => hg.block b (h.lt b ⟨j, x, h2, hb'⟩) (fun e' => e (h.disj i j _ x b hb h2 e'.symm hb')))
end

open Go.Sort in
/-- A row that is laid over a block's head. -/
theorem putRow_own {w : World} {g cap q : Nat} {cur : Array Value} {e : TypeId} {ys : List Int} (hg : w.heap[g]? = some (.cells cur e (0, 0))) (hcap : cur.size = cap) (hn : ys.length ≤ cap) (os : Array Obj) :
    w.grownBy (grow (putRow (Value.int .i64) (Sort.ahead w q) g 0 ys.toArray) os) (some g) ∧
    ∃ cur', (grow (putRow (Value.int .i64) (Sort.ahead w q) g 0 ys.toArray) os).heap[g]? = some (.cells cur' e (0, 0)) ∧ cur'.size = cap ∧ cur'.toList.take ys.length = ys.map (Value.int .i64) := by
  have hlt : g < w.heap.size := (Array.getElem?_eq_some_iff.1 hg).1
  have hold : ∀ b, b < w.heap.size → (grow (putRow (Value.int .i64) (Sort.ahead w q) g 0 ys.toArray) os).heap[b]? = (w.heap.modify g (onCells (putCells (Value.int .i64) 0 ys.toArray)))[b]? := by
    intro b hb
    simp only [grow, putRow, mapBlock, Sort.ahead]
    rw [Array.getElem?_append_left (by simpa using hb)]
  refine ⟨⟨rfl, rfl, rfl, by simp [grow, putRow, mapBlock, Sort.ahead], fun b hb hne => ?_⟩, ?_⟩
  · rw [hold b hb, Array.getElem?_modify]
    rw [if_neg (fun h => hne (by rw [h]))]
  · rw [hold g hlt, Array.getElem?_modify, if_pos rfl, hg]
    refine ⟨_, rfl, by simp [putCells, hcap], ?_⟩
    apply List.ext_getElem?
    intro j
    rw [List.getElem?_take]
    simp only [putCells, Array.getElem?_toList, Array.getElem?_mapIdx, List.getElem?_map]
    split
    · rename_i hj
      have hjc : j < cur.size := by omega
      rw [Array.getElem?_eq_getElem hjc, List.getElem?_eq_getElem hj]
      simp [hj]
    · rename_i hj
      rw [List.getElem?_eq_none (by omega)]
      rfl

theorem holds_own {w : World} {g cap : Nat} {cur : Array Value} {e : TypeId} {xs : List Int} (hg : w.heap[g]? = some (.cells cur e (0, 0))) (_hcap : cur.size = cap) (_hn : xs.length ≤ cap) (ht : cur.toList.take xs.length = xs.map (Value.int .i64)) :
    Go.Sort.Holds (Value.int .i64) w g 0 xs.toArray := by
  intro j hj
  simp only [List.size_toArray] at hj
  have h1 : (cur.toList.take xs.length)[j]? = some (Value.int .i64 xs[j]) := by rw [ht, List.getElem?_map, List.getElem?_eq_getElem hj]; rfl
  rw [List.getElem?_take, if_pos hj, Array.getElem?_toList] at h1
  refine ⟨?_, ?_⟩
  · simp [World.cell?, hg, h1, hj]
  · simp [World.frozen?, hg]

def sortI (xs : List Int) : List Int := xs.mergeSort fun x y => decide (x ≤ y)
def sortT : SpecT AA := fun args sh K => match args with
  | [.vec i] => match nth sh i with
    | some (.ivec e .i64 xs) => xs.length < 4611686018427387904 ∧ K (.tup .nil) (setNth sh i (.ivec e .i64 (sortI xs)))
    | _ => False
  | [.val (.slice none 0 0)] => K (.tup .nil) sh
  | _ => False
def compT : SpecT AA := fun args sh K => match args with
  | [.vec i] => match nth sh i with
    | some (.ivec e .i64 xs) => xs.length ≤ 9223372036854775807 ∧ K (.vec (cnt (setNth sh i .dead))) (snoc (setNth sh i .dead) (.ivec e .i64 (Lib.compact xs)))
    | _ => False
  | _ => False

theorem sortI_len (xs : List Int) : (sortI xs).length = xs.length := by simp [sortI]
theorem f54_has : Has prog 54 f54 (bodyOf f54) := ⟨by kernel_rfl, by kernel_rfl, by kernel_rfl⟩
theorem f55_has : Has prog 55 f55 (bodyOf f55) := ⟨by kernel_rfl, by kernel_rfl, by kernel_rfl⟩
theorem sort_none (w : World) : Calls prog 54 #[.slice none 0 0] w fun e w' => e = .returned (.tuple #[]) ∧ w' = w := Any.slices_Sort_int_none Tryd.lays189 none 0 w
open Go.Sort in
theorem sort_some (blk off cap : Nat) (zs : List Int) (w : World) (hH : Holds (Value.int .i64) w blk off zs.toArray) (hblk : blk < w.heap.size) (hsz : zs.length < 4611686018427387904) :
    Calls prog 54 #[.slice (some ⟨blk, off, none⟩) zs.length cap] w fun e w' => e = .returned (.tuple #[]) ∧ ∃ n os, w' = grow (putRow (Value.int .i64) (Sort.ahead w n) blk off (zs.mergeSort fun x y => decide (x ≤ y)).toArray) os := Any.slices_Sort_int Tryd.lays189 blk off cap zs w hH hblk hsz
theorem comp_none (w : World) : Calls prog 55 #[.slice none 0 0] w fun e w' => e = .returned (.slice none 0 0) ∧ w' = w := Any.slices_Compact_int_empty Tryd.lays2_20 none 0 w
open Go.Sort in
theorem comp_some (blk off cap : Nat) (zs : List Int) (w : World) (hH : Holds (Value.int .i64) w blk off zs.toArray) (hsz : zs.length ≤ 9223372036854775807) (hcap : zs.length ≤ cap) :
    Calls prog 55 #[.slice (some ⟨blk, off, none⟩) zs.length cap] w fun e w' => e = .returned (.slice (some ⟨blk, off, none⟩) (Lib.compact zs).length cap) ∧ ∃ q, w' = putRow (Value.int .i64) (Sort.ahead w q) blk off (Lib.compact zs ++ List.replicate (zs.length - (Lib.compact zs).length) 0).toArray := Any.slices_Compact_int Tryd.lays2_20 blk off cap zs w hH hsz hcap
theorem callR_post {P : Program} {f : FuncId} {fn : Func} {c : Code} (hf : Has P f fn c) {vs : Array Value} {w : World} {R : Value → World → Prop} {R' : Ending → World → Prop} (h : Calls P f vs w R') (hm : ∀ e w', R' e w' → ∃ v, e = .returned v ∧ R v w') : CallR P f vs w R := by
  refine callR_of_calls hf.is hf.name hf.body (h.mono fun e w' he => ?_)
  obtain ⟨v, rfl, hv⟩ := hm e w' he
  exact hv
open Go.Sort in
theorem sort_known {P : Program} {n : FuncId} (hq : qfA n = false) {fn : Func} {c : Code} (f54_has : Has P n fn c)
    (sort_none : ∀ w : World, Calls P n #[.slice none 0 0] w fun e w' => e = .returned (.tuple #[]) ∧ w' = w)
    (sort_some : ∀ (blk off cap : Nat) (zs : List Int) (w : World) (_ : Holds (Value.int .i64) w blk off zs.toArray) (_ : blk < w.heap.size) (_ : zs.length < 4611686018427387904),
      Calls P n #[.slice (some ⟨blk, off, none⟩) zs.length cap] w fun e w' => e = .returned (.tuple #[]) ∧ ∃ n os, w' = grow (putRow (Value.int .i64) (Sort.ahead w n) blk off (zs.mergeSort fun x y => decide (x ≤ y)).toArray) os)
    {l : List (Nat × SpecT AA)} (k : Known P l) : Known P ((n, sortT) :: l) := by
  refine .add ?_ k
  rw [hq]
  intro args sh K hk O env w vs ha hh hg
  unfold sortT at hk
  split at hk
  · rename_i i
    split at hk
    case h_2 => exact hk.elim
    rename_i e xs hi
    obtain ⟨hlen, hk⟩ := hk
    obtain ⟨u, us, rfl, h1, h2⟩ := ha
    have h3 : us = [] := h2
    subst h3
    obtain ⟨v, hb, hown⟩ := hh.ivec hi
    have hv : u = v := slAt_some h1.inv_vec hb
    subst hv
    obtain ⟨hol, hown⟩ := hown
    rcases hown with ⟨rfl, hn⟩ | ⟨g, cap, cur, rfl, _, hg1, hg2, _, hg4, hg5⟩
    · have hx : xs = [] := List.eq_nil_of_length_eq_zero hn
      subst hx
      refine callR_post f54_has (sort_none w) ?_
      rintro e' w' ⟨rfl, rfl⟩
      refine ⟨_, rfl, ?_⟩
      have hss : sortI [] = [] := by simp [sortI]
      rw [hss] at hk
      have : setNth sh i (.ivec e .i64 []) = sh := by
        rw [setNth_eq]; rw [nth_eq] at hi
        obtain ⟨hl, he⟩ := List.getElem?_eq_some_iff.1 hi
        rw [← he]
        exact List.set_getElem_self hl
      rw [this] at hk
      exact ⟨_, sh, env, .tup [] .nil, hh, Step.refl _ _, fun h => by simp at h, hk⟩
    · simp only [Nat.mul_one] at hg4 hg5
      refine callR_post f54_has (sort_some g 0 cap xs w (holds_own hg1 hg4 hg2 hg5) (Array.getElem?_eq_some_iff.1 hg1).1 hlen) ?_
      rintro e' w' ⟨rfl, q, os, rfl⟩
      refine ⟨_, rfl, ?_⟩
      obtain ⟨h4, cur', h5, h6, h7⟩ := putRow_own (q := q) (ys := sortI xs) hg1 hg4 (by rw [sortI_len]; exact hg2) os
      obtain ⟨h8, h9⟩ := vec_same hh hb (w' := Go.Sort.grow (Go.Sort.putRow (Value.int .i64) (Go.Sort.ahead w q) g 0 (sortI xs).toArray) os) h4 (.ivec e .i64 (sortI xs)) (fun _ => ⟨by simp, .inr ⟨g, cap, cur', by rw [sortI_len], Nat.zero_le _, h5, by rw [sortI_len]; exact hg2, by assumption, by simpa using h6, by simpa using h7⟩⟩)
      exact ⟨_, _, env, .tup [] .nil, h8, h9, fun h => by simp at h, hk⟩
  · obtain ⟨u, us, rfl, h1, h2⟩ := ha
    have h3 : us = [] := h2
    subst h3
    rw [h1.inv_val]
    refine callR_post f54_has (sort_none w) ?_
    rintro e' w' ⟨rfl, rfl⟩
    refine ⟨_, rfl, ?_⟩
    exact ⟨_, sh, env, .tup [] .nil, hh, Step.refl _ _, fun h => by simp at h, hk⟩
  · exact hk.elim

theorem compact_le (xs : List Int) : (Lib.compact xs).length ≤ xs.length := by
  unfold Lib.compact Lib.compactUpTo
  rw [List.length_map]
  exact Nat.le_trans (List.length_filter_le _ _) (by simp)
open Go.Sort in
theorem comp_known {P : Program} {n : FuncId} (hq : qfA n = false) {fn : Func} {c : Code} (f55_has : Has P n fn c)
    (comp_none : ∀ w : World, Calls P n #[.slice none 0 0] w fun e w' => e = .returned (.slice none 0 0) ∧ w' = w)
    (comp_some : ∀ (blk off cap : Nat) (zs : List Int) (w : World) (_ : Holds (Value.int .i64) w blk off zs.toArray) (_ : zs.length ≤ 9223372036854775807) (_ : zs.length ≤ cap),
      Calls P n #[.slice (some ⟨blk, off, none⟩) zs.length cap] w fun e w' => e = .returned (.slice (some ⟨blk, off, none⟩) (Lib.compact zs).length cap) ∧ ∃ q, w' = putRow (Value.int .i64) (Sort.ahead w q) blk off (Lib.compact zs ++ List.replicate (zs.length - (Lib.compact zs).length) 0).toArray)
    {l : List (Nat × SpecT AA)} (k : Known P l) : Known P ((n, compT) :: l) := by
  refine .add ?_ k
  rw [hq]
  intro args sh K hk O env w vs ha hh hg
  unfold compT at hk
  split at hk
  · rename_i i
    split at hk
    case h_2 => exact hk.elim
    rename_i e xs hi
    obtain ⟨hlen, hk⟩ := hk
    obtain ⟨u, us, rfl, h1, h2⟩ := ha
    have h3 : us = [] := h2
    subst h3
    obtain ⟨v, hb, hown⟩ := hh.ivec hi
    have hv : u = v := slAt_some h1.inv_vec hb
    subst hv
    obtain ⟨hol, hown⟩ := hown
    rcases hown with ⟨rfl, hn⟩ | ⟨g, cap, cur, rfl, _, hg1, hg2, _, hg4, hg5⟩
    · have hx : xs = [] := List.eq_nil_of_length_eq_zero hn
      subst hx
      refine callR_post f55_has (comp_none w) ?_
      rintro e' w' ⟨rfl, rfl⟩
      refine ⟨_, rfl, ?_⟩
      have hss : Lib.compact ([] : List Int) = [] := rfl
      rw [hss] at hk
      obtain ⟨h4, h5, h6⟩ := vec_next hh hb (v' := .slice none 0 0) (w' := w') ⟨rfl, rfl, rfl, Nat.le_refl _, fun _ _ _ => rfl⟩ (.inl rfl) (fun b hb => by cases hb) (.ivec e .i64 []) (fun _ => ⟨by simp, .inl ⟨rfl, rfl⟩⟩)
      rw [snoc_eq] at hk
      exact ⟨_, _, _, h6, h4, h5, fun h => by simp at h, hk⟩
    · simp only [Nat.mul_one] at hg4 hg5
      refine callR_post f55_has (comp_some g 0 cap xs w (holds_own hg1 hg4 hg2 hg5) hlen hg2) ?_
      rintro e' w' ⟨rfl, q, hw'⟩
      refine ⟨_, rfl, ?_⟩
      have hcl := compact_le xs
      have hy : (Lib.compact xs ++ List.replicate (xs.length - (Lib.compact xs).length) 0).length = xs.length := by simp; omega
      obtain ⟨h4, cur', h5, h6, h7⟩ := putRow_own (q := q) (ys := Lib.compact xs ++ List.replicate (xs.length - (Lib.compact xs).length) 0) hg1 hg4 (by rw [hy]; exact hg2) #[]
      rw [Go.Sort.grow_empty] at h4 h5
      rw [← hw'] at h4 h5
      obtain ⟨h8, h9, h10⟩ := vec_next hh hb (v' := .slice (some ⟨g, 0, none⟩) (Lib.compact xs).length cap) (w' := w') h4 (.inl rfl) (fun b hb => by cases hb; exact (Array.getElem?_eq_some_iff.1 h5).1) (.ivec e .i64 (Lib.compact xs))
        (fun _ => ⟨by simp, .inr ⟨g, cap, cur', rfl, Nat.zero_le _, h5, by omega, by assumption, by simpa using h6, by
          simp only [Nat.mul_one]
          rw [hy] at h7
          have h11 : (cur'.toList.take xs.length).take (Lib.compact xs).length = ((Lib.compact xs ++ List.replicate (xs.length - (Lib.compact xs).length) 0).map (Value.int .i64)).take (Lib.compact xs).length := by rw [h7]
          rw [List.take_take, Nat.min_eq_left hcl, List.map_append, List.take_append_of_le_length (by simp)] at h11
          rw [h11]
          exact List.take_of_length_le (by simp)⟩⟩)
      rw [snoc_eq] at hk
      exact ⟨_, _, _, h10, h8, h9, fun h => by simp at h, hk⟩
  · exact hk.elim
def L12 : List (Nat × SpecT AA) := (55, compT) :: (54, sortT) :: L10
theorem known12 : Known prog L12 := by
  unfold L12
  exact comp_known rfl f55_has comp_none comp_some (sort_known rfl f54_has sort_none sort_some known10)
end Go.Proofs.YtcglahfmnoghjaaDoor
