/- An error's number: the contract. Conditions: none. -/
import Derived.Test.YtcglahfmnoghjaaDoorK9
import Derived.Test.YtcglahfmnoghjaaDoorN2
namespace Go.Proofs.YtcglahfmnoghjaaDoor
open Go Go.Eng Go.Proofs.Tryd

theorem left_old {O : Nat → Prop} {C : Enc AA} {q : Bool} {env : List Wit} {w w' : World} {sh : List (SO AA)} {K : Pred AA} {s : SV AA} {v : Value} (hh : HR O env w C sh) (ho : Old w w') (h1 : w'.os = w.os) (h2 : w'.tape = w.tape) (h3 : w'.output = w.output)
    (hr : Rep O env w' C s v) (hk : K s sh) : Go.Eng.Left O C q env w K v w' := by
  have hs : Step env w env w' := ⟨h1, h2, h3, ho.size, Nat.le_refl _, fun _ x h => ⟨x, h, .refl x⟩, fun _ h => .inl h, fun b hb _ => ho.same b hb⟩
  exact ⟨s, sh, env, hr, ⟨hh.len, fun i so y h4 h5 => (hh.rep i so y h4 h5).step hs (fun b hb => ho.same b (hh.lt b ⟨i, y, h5, hb⟩)), hh.disj, hh.out, fun b hb => Nat.lt_of_lt_of_le (hh.lt b hb) ho.size, fun b hb => Nat.lt_of_lt_of_le (hh.olt b hb) ho.size⟩, hs, fun _ => ⟨ho.size, ho.same⟩, hk⟩

def numT : SpecT AA := fun args sh K => match args with
  | [.val .nilIface] => K (.int .i64 0) sh
  | [.iface t s] => if t = 94 then (match asI s with
    | some n => K (.int .i64 n) sh
    | none => False) else False
  | [.err t n] => if t = 94 then K (.int .i64 n) sh else False
  | _ => False

theorem f15_body : f15.body = some (bodyOf f15) := by kernel_rfl
theorem f15_name : (f15.name == "runtime.NumGoroutine") = false := by kernel_rfl
/-- A call that returns, and leaves what was there. -/
theorem callR_old {P : Program} {f : FuncId} {fn : Func} {c : Code} (hf : P.funcs[f]? = some fn) (hname : (fn.name == "runtime.NumGoroutine") = false) (hb : fn.body = some c) {vs : Array Value} {w : World} {O : Nat → Prop} {C : Enc AA} {q : Bool} {env : List Wit} {sh : List (SO AA)} {K : Pred AA} {v : Value} {W : World} {s : SV AA}
    (h : Calls P f vs w fun e w' => e = .returned v ∧ w' = W) (hh : HR O env w C sh) (ho : Old w W) (h1 : W.os = w.os) (h2 : W.tape = w.tape) (h3 : W.output = w.output) (hr : Rep O env W C s v) (hk : K s sh) : CallR P f vs w (Go.Eng.Left O C q env w K) := by
  refine callR_of_calls hf hname hb (h.mono fun e w' he => ?_)
  obtain ⟨rfl, rfl⟩ := he
  exact left_old hh ho h1 h2 h3 hr hk

theorem num_known {P : Program} {l : List (Nat × SpecT AA)} (k : Known P l) {fn : Func} {c : Code} (hf : P.funcs[15]? = some fn) (hname : (fn.name == "runtime.NumGoroutine") = false) (hb : fn.body = some c)
    (hnil : ∀ w, Calls P 15 #[.nilIface] w fun e w' => e = .returned (.int .i64 0) ∧ w' = w.alloc (.cells #[.int .i64 0] 94))
    (herr : ∀ (n : Int) (w : World), w.cell? ⟨0, 0, none⟩ = some (.iface 179 (.agg #[.pointer (some ⟨3, 34, none⟩)])) → Calls P 15 #[.iface 94 (.int .i64 n)] w fun e w' => e = .returned (.int .i64 n) ∧ w' = ((((w.alloc (.cells #[.int .i64 n] 94)).alloc (.cells #[.pointer (some ⟨w.heap.size, 0, none⟩)] 96)).alloc (.cells #[.pointer (some ⟨3, 96, none⟩), .pointer (some ⟨w.heap.size + 1, 0, none⟩), .int .u64 150] 137)).alloc (.cells #[.pointer (some ⟨3, 96, none⟩), .pointer (some ⟨w.heap.size + 1, 0, none⟩), .int .u64 150] 137)).alloc (.cells #[.int .i64 n] 94)) : Known P ((15, numT) :: l) := by
  refine Known.cons ?_ k
  intro args sh K hk O env w vs ha hh hg
  unfold numT at hk
  split at hk
  · obtain ⟨u, us, rfl, h1, h2⟩ := ha
    have h3 : us = [] := h2
    subst h3
    have h4 := h1.inv_val
    subst h4
    exact callR_old hf hname hb (hnil w) hh (Old.alloc _ _) rfl rfl rfl .int hk
  · split at hk
    · rename_i e
      subst e
      split at hk
      · rename_i n hn
        obtain ⟨u, us, rfl, h1, h2⟩ := ha
        have h3 : us = [] := h2
        subst h3
        obtain ⟨v, rfl, h4⟩ := h1.inv_iface
        have h5 : v = .int .i64 n := by
          unfold asI at hn
          split at hn
          · cases hn; exact h4.inv_int
          · cases hn; exact h4.inv_lit
          · cases hn
        subst h5
        have hg0 := hg 0 _ rfl
        obtain ⟨b, o, vs, e1, _, _, _, hc, hr⟩ := hg0.inv_rptr
        obtain ⟨x, xs, rfl, hx, _⟩ := hr.inv_cell
        have hx := hx.inv_val
        subst hx
        have e2 : b = 0 ∧ o = 0 := by simp at e1; omega
        obtain ⟨rfl, rfl⟩ := e2
        have hcell := hc 0 _ rfl
        exact callR_old hf hname hb (herr n w hcell) hh (((((Old.alloc _ _).trans (Old.alloc _ _)).trans (Old.alloc _ _)).trans (Old.alloc _ _)).trans (Old.alloc _ _)) rfl rfl rfl .int hk
      · exact hk.elim
    · exact hk.elim
  · split at hk
    · rename_i e
      subst e
      obtain ⟨u, us, rfl, h1, h2⟩ := ha
      have h3 : us = [] := h2
      subst h3
      rcases h1.inv_err with ⟨rfl, rfl⟩ | ⟨hn, rfl⟩
      · exact callR_old hf hname hb (hnil w) hh (Old.alloc _ _) rfl rfl rfl .int hk
      · obtain ⟨b, o, vs, e1, _, _, _, hc, hr⟩ := (hg 0 _ rfl).inv_rptr
        obtain ⟨x, xs, rfl, hx, _⟩ := hr.inv_cell
        have hx := hx.inv_val
        subst hx
        have e2 : b = 0 ∧ o = 0 := by simp at e1; omega
        obtain ⟨rfl, rfl⟩ := e2
        have hcell := hc 0 _ rfl
        exact callR_old hf hname hb (herr _ w hcell) hh (((((Old.alloc _ _).trans (Old.alloc _ _)).trans (Old.alloc _ _)).trans (Old.alloc _ _)).trans (Old.alloc _ _)) rfl rfl rfl .int hk
    · exact hk.elim
  · exact hk.elim
def L9 : List (Nat × SpecT AA) := (15, numT) :: L8
theorem known9 : Known prog L9 := by
  unfold L9
  exact num_known known8 func15 f15_name f15_body num_nil num_errno
end Go.Proofs.YtcglahfmnoghjaaDoor
