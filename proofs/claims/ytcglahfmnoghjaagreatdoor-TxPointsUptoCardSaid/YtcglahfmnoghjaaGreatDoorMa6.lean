/- Part 6 of the texts behind the last one: what they say stands ahead of each. Conditions: none. -/
import Derived.Test.YtcglahfmnoghjaaGreatDoorMa5
import Derived.Laws.Externs
/-! A transaction's bytes, its sum; the totals' law: plain laws; the walks hold. Conditions: none. -/
namespace Go.Proofs.YtcglahfmnoghjaaGreatDoor
open Go Go.Eng Go.Proofs.Tryz

theorem stuffB_le : ∀ l : List Int, (stuffB l).length ≤ 2 * l.length
  | [] => by simp [stuffB]
  | c :: l => by
    have := stuffB_le l
    simp only [stuffB]
    split <;> simp only [List.length_cons] <;> omega
theorem stuffB_app : ∀ a b : List Int, stuffB (a ++ b) = stuffB a ++ stuffB b
  | [], b => rfl
  | c :: a, b => by
    simp only [List.cons_append, stuffB]
    split <;> simp [stuffB_app a b]
theorem stuffB_take_le (l : List Int) (i : Nat) : (stuffB (l.take i)).length ≤ 2 * l.length := by
  have h1 := stuffB_le (l.take i)
  have h2 : (l.take i).length ≤ l.length := by rw [List.length_take]; omega
  omega
def wBytesVC : Prop := ∀ (x : BB), x.Ok → (↑x.b.length : Int) ≤ (9223372036854775807 : Int) → (∃ x_1, Nat.le x_1 x.b.length ∧ (↑x_1 : Int) = (0 : Int) ∧ ((True ∧ True) ∧
  True) ∧ x.xs ++ stuffB (List.take x_1 x.b) = x.xs ∧ True) ∧ ∀ (x_1 : Nat), x_1.le x.b.length → (decide ((↑x_1 : Int) < (↑x.b.length : Int)) = true → (0
  : Int) ≤ (↑x_1 : Int) ∧ (↑x_1 : Int) < (↑x.b.length : Int) ∧ (↑x_1 : Int).toNat < x.b.length ∧ ((x.xs ++ stuffB (List.take x_1 x.b)).length + [x.b.getD
  (↑x_1 : Int).toNat (0 : Int)].length) * (1 : Nat) ≤ (140737488355328 : Nat) ∧ (x.xs ++ stuffB (List.take x_1 x.b)).length + [x.b.getD (↑x_1 :
  Int).toNat (0 : Int)].length ≤ (1152921504606846976 : Nat) ∧ ((x.b.getD (↑x_1 : Int).toNat (0 : Int) == (0 : Int)) = true → ((x.xs ++ stuffB (List.take
  x_1 x.b) ++ [x.b.getD (↑x_1 : Int).toNat (0 : Int)]).length + [(255 : Int)].length) * (1 : Nat) ≤ (140737488355328 : Nat) ∧ (x.xs ++ stuffB (List.take
  x_1 x.b) ++ [x.b.getD (↑x_1 : Int).toNat (0 : Int)]).length + [(255 : Int)].length ≤ (1152921504606846976 : Nat) ∧ inI64 ((↑x_1 : Int) + (1 : Int)) ∧ ∃
  y, Nat.le y x.b.length ∧ x.b.length - y < x.b.length - x_1 ∧ (↑y : Int) = (↑x_1 : Int) + (1 : Int) ∧ ((True ∧ True) ∧ True) ∧ x.xs ++ stuffB (List.take
  y x.b) = x.xs ++ stuffB (List.take x_1 x.b) ++ [x.b.getD (↑x_1 : Int).toNat (0 : Int)] ++ [(255 : Int)] ∧ True) ∧ ((x.b.getD (↑x_1 : Int).toNat (0 :
  Int) == (0 : Int)) = false → inI64 ((↑x_1 : Int) + (1 : Int)) ∧ ∃ y, Nat.le y x.b.length ∧ x.b.length - y < x.b.length - x_1 ∧ (↑y : Int) = (↑x_1 :
  Int) + (1 : Int) ∧ ((True ∧ True) ∧ True) ∧ x.xs ++ stuffB (List.take y x.b) = x.xs ++ stuffB (List.take x_1 x.b) ++ [x.b.getD (↑x_1 : Int).toNat (0 :
  Int)] ∧ True)) ∧ (decide ((↑x_1 : Int) < (↑x.b.length : Int)) = false → ((x.xs ++ stuffB (List.take x_1 x.b)).length + [(0 : Int), (0 : Int)].length) *
  (1 : Nat) ≤ (140737488355328 : Nat) ∧ (x.xs ++ stuffB (List.take x_1 x.b)).length + [(0 : Int), (0 : Int)].length ≤ (1152921504606846976 : Nat) ∧ True
  ∧ ((True ∧ True) ∧ True) ∧ x.xs ++ bytesB x.b = x.xs ++ stuffB (List.take x_1 x.b) ++ [(0 : Int), (0 : Int)] ∧ True)
theorem wBytes_eq : wBytesVC = fnS E88 f119 (bodyOf f119) wBytesLS wBytesAnn := by kernel_rfl
theorem wBytes_vc : wBytesVC := by
  rintro ⟨xs, b⟩ ⟨hl, hb⟩
  simp only at hl hb
  simp only [true_and, and_true, decide_eq_true_eq, decide_eq_false_iff_not, Int.toNat_natCast, List.length_append, List.length_singleton, List.length_cons, List.length_nil, beq_iff_eq, beq_eq_false_iff_ne, ne_eq]
  refine fun _ => ⟨⟨0, Nat.zero_le _, rfl, by simp [stuffB]⟩, fun i hi => ⟨fun h => ?_, fun h => ?_⟩⟩
  · have hi' : i < b.length := by omega
    have p1 := stuffB_take_le b i
    have hup := take_up hi' rfl
    refine ⟨by omega, h, hi', by omega, by omega, fun h0 => ⟨by omega, by omega, by unfold inI64; omega, i + 1, hi', by omega, by omega, ?_⟩, fun h0 => ⟨by unfold inI64; omega, i + 1, hi', by omega, by omega, ?_⟩⟩
    · rw [hup, stuffB_app, h0]
      simp [stuffB]
    · rw [hup, stuffB_app]
      simp only [stuffB, if_neg h0, List.append_assoc]
  · have p1 := stuffB_take_le b i
    refine ⟨by omega, by omega, ?_⟩
    rw [List.take_of_length_le (by omega)]
    simp [bytesB]
theorem wBytes_ok : Fits E88 f119 (bodyOf f119) wBytesLS wBytesAnn := by
  constructor
  rw [← wBytes_eq]
  exact wBytes_vc
theorem f104_has : Has prog 119 f119 (bodyOf f119) := ⟨by kernel_rfl, by kernel_rfl, by kernel_rfl⟩
theorem known89 : Known prog L89 := by
  unfold L89
  exact known88.lent mixed f104_has E88_eq wBytes_ok (fun _ _ => by simp [wBytesLS]) (fun h => by cases h)
def id1VC : Prop := ∀ (x : TIn), True → (SV.val (A := AA) (Value.slice none (0 : Nat) (0 : Nat)) : SV AA) = SV.val (A := AA) (Value.slice none (0 : Nat) (0 : Nat)) ∧ True
  ∧ True
theorem id1_eq : id1VC = fnS E89 f76 (bodyOf f76) id1LS noAnn := by kernel_rfl
theorem id1_ok : Fits E89 f76 (bodyOf f76) id1LS noAnn := by
  constructor
  rw [← id1_eq]
  exact fun _ _ => ⟨rfl, trivial, trivial⟩
theorem f71_has : Has prog 76 f76 (bodyOf f76) := ⟨by kernel_rfl, by kernel_rfl, by kernel_rfl⟩
theorem known90 : Known prog L90 := by
  unfold L90
  exact known89.lent mixed f71_has E89_eq id1_ok (fun _ _ => Nat.le_refl _) (fun _ _ => rfl)
theorem f70_has : Has prog 75 f75 (bodyOf f75) := ⟨by kernel_rfl, by kernel_rfl, by kernel_rfl⟩
theorem known91 : Known prog L91 := by
  unfold L91
  exact known90.inl mixed f70_has E90_eq (by rfl)

/-! ## Plain laws of a transaction's bytes -/
theorem byt_app {a b : List Int} (ha : Byt a) (hb : Byt b) : Byt (a ++ b) := fun y hy => by
  rcases List.mem_append.1 hy with h | h
  · exact ha y h
  · exact hb y h
theorem byt_nil : Byt [] := fun y h => by cases h
theorem uintB_byt (x : Int) : Byt (uintB (wr .u64 x)) := fun y hy => by
  rcases List.mem_cons.1 hy with h | h
  · have := digs_le (u64_wr x)
    rw [h]
    omega
  · exact digs_byte h
theorem keysB_byt : ∀ l : List Int, Byt (keysB l)
  | [] => byt_nil
  | k :: l => byt_app (uintB_byt k) (keysB_byt l)
theorem brsB_byt : ∀ {l : List Br}, (∀ b, b ∈ l → Byt b.lock) → Byt (brsB l)
  | [], _ => byt_nil
  | b :: l, h => by
    refine byt_app ?_ (brsB_byt fun c hc => h c (List.mem_cons_of_mem _ hc))
    exact byt_app (byt_app (byt_app (byt_app (uintB_byt _) (keysB_byt _)) (h b List.mem_cons_self)) (uintB_byt _)) (uintB_byt _)
theorem stuffB_byt : ∀ {l : List Int}, Byt l → Byt (stuffB l)
  | [], _ => byt_nil
  | c :: l, h => by
    have h1 := stuffB_byt (l := l) (fun y hy => h y (List.mem_cons_of_mem _ hy))
    have h2 := h c List.mem_cons_self
    intro y hy
    simp only [stuffB] at hy
    split at hy
    · simp only [List.mem_cons] at hy
      rcases hy with rfl | rfl | hy
      · omega
      · omega
      · exact h1 y hy
    · rcases List.mem_cons.1 hy with rfl | hy
      · exact h2
      · exact h1 y hy
theorem bytesB_byt {l : List Int} (h : Byt l) : Byt (bytesB l) := byt_app (stuffB_byt h) (fun y hy => by simp only [List.mem_cons, List.not_mem_nil, or_false] at hy; omega)
theorem insB_app (sec : TIn → List Int) : ∀ a b : List TIn, insB sec (a ++ b) = insB sec a ++ insB sec b
  | [], b => rfl
  | x :: a, b => by simp [insB, insB_app sec a b]
theorem insB_up {sec : TIn → List Int} {l : List TIn} {i : Nat} {y : TIn} (h : l[i]? = some y) : insB sec (l.take (i + 1)) = insB sec (l.take i) ++ inB sec y := by
  rw [List.take_add_one, h, insB_app]
  simp [insB]
theorem toutsB_app : ∀ a b : List TOut, toutsB (a ++ b) = toutsB a ++ toutsB b
  | [], b => rfl
  | x :: a, b => by simp [toutsB, toutsB_app a b]
theorem toutsB_up {l : List TOut} {i : Nat} {y : TOut} (h : l[i]? = some y) : toutsB (l.take (i + 1)) = toutsB (l.take i) ++ toutB y := by
  rw [List.take_add_one, h, toutsB_app]
  simp [toutsB]
theorem insB_le {sec : TIn → List Int} {m : Nat} (hs : ∀ x, (sec x).length ≤ m) : ∀ {l : List TIn}, (∀ x, x ∈ l → x.tx.length = 32) → (insB sec l).length ≤ (52 + 2 * m) * l.length
  | [], _ => by simp [insB]
  | x :: l, h => by
    have h1 := insB_le hs (l := l) (fun y hy => h y (List.mem_cons_of_mem _ hy))
    have h2 := h x List.mem_cons_self
    have h3 := uintB_le x.n
    have h4 := uintB_le x.branch
    have h5 := stuffB_le (sec x)
    have h6 := hs x
    simp only [insB, inB, bytesB, List.length_append, List.length_cons, List.length_nil]
    have e : (52 + 2 * m) * (l.length + 1) = (52 + 2 * m) * l.length + (52 + 2 * m) := by rw [Nat.mul_add, Nat.mul_one]
    omega
theorem toutsB_le : ∀ {l : List TOut}, (∀ o, o ∈ l → Locks o.cond) → (toutsB l).length ≤ 18 * l.length + 59 * sumW l
  | [], _ => by simp [toutsB]
  | o :: l, h => by
    have h1 := toutsB_le (l := l) (fun y hy => h y (List.mem_cons_of_mem _ hy))
    have h2 := putB_le (h o List.mem_cons_self)
    have h3 := uintB_le o.amount
    simp only [toutsB, toutB, sumW, List.length_append, List.length_cons]
    omega
theorem insB_take_le {sec : TIn → List Int} {m : Nat} (hs : ∀ x, (sec x).length ≤ m) {l : List TIn} (h : ∀ x, x ∈ l → x.tx.length = 32) (i : Nat) : (insB sec (l.take i)).length ≤ (52 + 2 * m) * l.length := by
  have h1 := insB_le hs h
  have h2 := congrArg (fun x => (insB sec x).length) (List.take_append_drop i l)
  simp only [insB_app, List.length_append] at h2
  omega
theorem toutsB_take_le {l : List TOut} (h : ∀ o, o ∈ l → Locks o.cond) (i : Nat) : (toutsB (l.take i)).length ≤ 18 * l.length + 59 * sumW l := by
  have h1 := toutsB_le h
  have h2 := congrArg (fun x => (toutsB x).length) (List.take_append_drop i l)
  simp only [toutsB_app, List.length_append] at h2
  omega
theorem weight_sum : ∀ {l : List TOut} {o : TOut}, o ∈ l → weight o.cond ≤ sumW l
  | [], o, h => by cases h
  | p :: l, o, h => by
    simp only [sumW]
    rcases List.mem_cons.1 h with rfl | h
    · omega
    · have := weight_sum h; omega
theorem insB_byt {sec : TIn → List Int} (hs : ∀ x, Byt (sec x)) : ∀ {l : List TIn}, (∀ x, x ∈ l → Byt x.tx) → Byt (insB sec l)
  | [], _ => byt_nil
  | x :: l, h => byt_app (byt_app (byt_app (byt_app (h x List.mem_cons_self) (uintB_byt _)) (uintB_byt _)) (bytesB_byt (hs x))) (insB_byt hs fun y hy => h y (List.mem_cons_of_mem _ hy))
theorem toutsB_byt : ∀ {l : List TOut}, (∀ o, o ∈ l → ∀ b, b ∈ o.cond → Byt b.lock) → Byt (toutsB l)
  | [], _ => byt_nil
  | o :: l, h => byt_app (byt_app (uintB_byt _) (byt_app (uintB_byt _) (brsB_byt (h o List.mem_cons_self)))) (toutsB_byt fun y hy => h y (List.mem_cons_of_mem _ hy))
end Go.Proofs.YtcglahfmnoghjaaGreatDoor

/-! A transaction's sum: the walk holds. Conditions: none. -/
namespace Go.Proofs.YtcglahfmnoghjaaGreatDoor
open Go Go.Eng Go.Proofs.Tryz

/-! What the walk speaks of, in short. -/
def tA0 (x : TxD) : List Int := [] ++ uintB (wr IntKind.u64 x.lock)
def tA1 (x : TxD) : List Int := [] ++ uintB (wr IntKind.u64 x.lock) ++ uintB (wr IntKind.u64 (↑x.ins.length : Int))
def tA2 (x : TxD) (k : Nat) : List Int := tA1 x ++ insB (secOf (76 : Nat)) (List.take k x.ins)
def tA3 (x : TxD) (k : Nat) (y : TIn) : List Int := tA2 x k ++ y.tx
def tA4 (x : TxD) (k : Nat) (y : TIn) : List Int := tA3 x k y ++ uintB (wr IntKind.u64 y.n)
def tA5 (x : TxD) (k : Nat) (y : TIn) : List Int := tA4 x k y ++ uintB (wr IntKind.u64 y.branch)
def tA6 (x : TxD) (k : Nat) : List Int := tA2 x k ++ uintB (wr IntKind.u64 (↑x.outs.length : Int))
def tA7 (x : TxD) (k i : Nat) : List Int := tA6 x k ++ toutsB (List.take i x.outs)
def tA8 (y : TOut) : List Int := [] ++ uintB (wr IntKind.u64 y.amount)
def tH (x : TxD) : Prop := ((x.lock = x.lock ∧ x.ins = x.ins ∧ x.outs = x.outs ∧ True) ∧ (List.replicate (32 : Nat) (0 : Int) = List.replicate (32 : Nat) (0 : Int) ∧ True) ∧ (x.lock = x.lock ∧ x.ins = x.ins ∧ x.outs = x.outs ∧ True) ∧ (True ∧ True) ∧ True)
def tH2 (x : TxD) (k : Nat) : Prop := ((x.lock = x.lock ∧ x.ins = x.ins ∧ x.outs = x.outs ∧ True) ∧ (List.replicate (32 : Nat) (0 : Int) = List.replicate (32 : Nat) (0 : Int) ∧ True) ∧ (x.lock = x.lock ∧ x.ins = x.ins ∧ x.outs = x.outs ∧ True) ∧ (True ∧ True) ∧ tA6 x k = tA6 x k ∧ True)
theorem tH_ok (x : TxD) : tH x := ⟨⟨rfl, rfl, rfl, trivial⟩, ⟨rfl, trivial⟩, ⟨rfl, rfl, rfl, trivial⟩, ⟨trivial, trivial⟩, trivial⟩
theorem tH2_ok (x : TxD) (k : Nat) : tH2 x k := ⟨⟨rfl, rfl, rfl, trivial⟩, ⟨rfl, trivial⟩, ⟨rfl, rfl, rfl, trivial⟩, ⟨trivial, trivial⟩, rfl, trivial⟩
def tF (x : TxD) (k : Nat) (y : TIn) : Prop := inI64 ((↑k : Int) + (1 : Int)) ∧ ∃ y_1, Nat.le y_1 x.ins.length ∧ x.ins.length - y_1 < x.ins.length - k ∧ (↑y_1 : Int) = (↑k : Int) + (1 : Int) ∧ tH x ∧ tA1 x ++ insB (secOf (76 : Nat)) (List.take y_1 x.ins) = tA5 x k y ++ bytesB [] ∧ True
def tG (x : TxD) (k : Nat) (y : TIn) : Prop := (y.tx = y.tx ∧ y.n = y.n ∧ y.branch = y.branch ∧ y.secret = y.secret ∧ True) ∧ True ∧ True ∧ (True ∧ ([] : List Int) = []) ∧ ((True ∧ True) ∧ tA5 x k y = tA5 x k y ∧ True) ∧ (BB.mk (tA5 x k y) []).Ok ∧ tF x k y
def tK (x : TxD) (k : Nat) (y : TIn) : Prop := (True ∧ wr IntKind.u64 y.branch = wr IntKind.u64 y.branch) ∧ ((True ∧ True) ∧ tA4 x k y = tA4 x k y ∧ True) ∧ (BN.mk (tA4 x k y) (wr IntKind.u64 y.branch)).Low ∧ tG x k y
def tL (x : TxD) (k : Nat) (y : TIn) : Prop := (True ∧ wr IntKind.u64 y.n = wr IntKind.u64 y.n) ∧ ((True ∧ True) ∧ tA3 x k y = tA3 x k y ∧ True) ∧ (BN.mk (tA3 x k y) (wr IntKind.u64 y.n)).Low ∧ tK x k y
def tM (x : TxD) (k i : Nat) (y : TOut) : Prop := ((tA7 x k i).length + (tA8 y).length) * (1 : Nat) ≤ (140737488355328 : Nat) ∧ (tA7 x k i).length + (tA8 y).length ≤ (1152921504606846976 : Nat) ∧ (tA7 x k i ++ (tA8 y) = tA7 x k i ++ (tA8 y) ∧ y.cond = y.cond ∧ True) ∧ True ∧ (PutX.mk (tA7 x k i ++ (tA8 y)) y.cond).Ok ∧ inI64 ((↑i : Int) + (1 : Int)) ∧ ∃ y_1, Nat.le y_1 x.outs.length ∧ x.outs.length - y_1 < x.outs.length - i ∧ ((↑y_1 : Int) = (↑i : Int) + (1 : Int) ∧ True) ∧ tH2 x k ∧ tA6 x k ++ toutsB (List.take y_1 x.outs) = tA7 x k i ++ (tA8 y) ++ putB y.cond ∧ True
def tBody (x : TxD) : Prop := ((↑x.ins.length : Int) ≤ (9223372036854775807 : Int) → (∃ x_1, Nat.le x_1 x.ins.length ∧ (↑x_1 : Int) = (0 : Int) ∧ tH x ∧ tA2 x x_1 = tA1 x ∧ True) ∧
  ∀ (x_1 : Nat), x_1.le x.ins.length → (decide ((↑x_1 : Int) < (↑x.ins.length : Int)) = true → (0 : Int) ≤ (↑x_1 : Int) ∧ (↑x_1 : Int) < (↑x.ins.length :
  Int) ∧ ∀ (y : AA (87 : Nat)), x.ins[(↑x_1 : Int).toNat]? = some y → ((True ∧ y.tx = y.tx ∧ True) ∧ ((True ∧ True) ∧ tA2 x x_1 = tA2 x x_1 ∧ True) ∧
  (BH.mk (tA2 x x_1) y.tx).Ok ∧ ((True ∧ wr IntKind.u64 y.n = wr IntKind.u64 y.n) ∧ ((True ∧ True) ∧ tA3 x x_1 y = tA3 x x_1 y ∧ True) ∧ (BN.mk (tA3 x
  x_1 y) (wr IntKind.u64 y.n)).Low ∧ (tK x x_1 y) ∧ tK x x_1 y) ∧ (((True ∧ wr IntKind.u64 y.n = wr IntKind.u64 y.n) ∧ ((True ∧ True) ∧ tA3 x x_1 y = tA3
  x x_1 y ∧ True) ∧ (BN.mk (tA3 x x_1 y) (wr IntKind.u64 y.n)).Low ∧ (tK x x_1 y) ∧ tK x x_1 y) ∧ tL x x_1 y) ∧ (tL x x_1 y) ∧ tL x x_1 y) ∧ (((True ∧
  y.tx = y.tx ∧ True) ∧ ((True ∧ True) ∧ tA2 x x_1 = tA2 x x_1 ∧ True) ∧ (BH.mk (tA2 x x_1) y.tx).Ok ∧ ((True ∧ wr IntKind.u64 y.n = wr IntKind.u64 y.n)
  ∧ ((True ∧ True) ∧ tA3 x x_1 y = tA3 x x_1 y ∧ True) ∧ (BN.mk (tA3 x x_1 y) (wr IntKind.u64 y.n)).Low ∧ (tK x x_1 y) ∧ tK x x_1 y) ∧ (((True ∧ wr
  IntKind.u64 y.n = wr IntKind.u64 y.n) ∧ ((True ∧ True) ∧ tA3 x x_1 y = tA3 x x_1 y ∧ True) ∧ (BN.mk (tA3 x x_1 y) (wr IntKind.u64 y.n)).Low ∧ (tK x x_1
  y) ∧ tK x x_1 y) ∧ tL x x_1 y) ∧ (tL x x_1 y) ∧ tL x x_1 y) ∧ (((True ∧ y.tx = y.tx ∧ True) ∧ ((True ∧ True) ∧ tA2 x x_1 = tA2 x x_1 ∧ True) ∧ (BH.mk
  (tA2 x x_1) y.tx).Ok ∧ ((True ∧ wr IntKind.u64 y.n = wr IntKind.u64 y.n) ∧ ((True ∧ True) ∧ tA3 x x_1 y = tA3 x x_1 y ∧ True) ∧ (BN.mk (tA3 x x_1 y)
  (wr IntKind.u64 y.n)).Low ∧ (tK x x_1 y) ∧ tK x x_1 y) ∧ tL x x_1 y) ∧ (True ∧ y.tx = y.tx ∧ True) ∧ ((True ∧ True) ∧ tA2 x x_1 = tA2 x x_1 ∧ True) ∧
  (BH.mk (tA2 x x_1) y.tx).Ok ∧ tL x x_1 y) ∧ ((True ∧ y.tx = y.tx ∧ True) ∧ ((True ∧ True) ∧ tA2 x x_1 = tA2 x x_1 ∧ True) ∧ (BH.mk (tA2 x x_1) y.tx).Ok
  ∧ (tL x x_1 y) ∧ tL x x_1 y) ∧ (True ∧ y.tx = y.tx ∧ True) ∧ ((True ∧ True) ∧ tA2 x x_1 = tA2 x x_1 ∧ True) ∧ (BH.mk (tA2 x x_1) y.tx).Ok ∧ tL x x_1 y)
  ∧ (((True ∧ y.tx = y.tx ∧ True) ∧ ((True ∧ True) ∧ tA2 x x_1 = tA2 x x_1 ∧ True) ∧ (BH.mk (tA2 x x_1) y.tx).Ok ∧ ((True ∧ wr IntKind.u64 y.n = wr
  IntKind.u64 y.n) ∧ ((True ∧ True) ∧ tA3 x x_1 y = tA3 x x_1 y ∧ True) ∧ (BN.mk (tA3 x x_1 y) (wr IntKind.u64 y.n)).Low ∧ (tK x x_1 y) ∧ tK x x_1 y) ∧
  tL x x_1 y) ∧ (((True ∧ y.tx = y.tx ∧ True) ∧ ((True ∧ True) ∧ tA2 x x_1 = tA2 x x_1 ∧ True) ∧ (BH.mk (tA2 x x_1) y.tx).Ok ∧ ((True ∧ wr IntKind.u64
  y.n = wr IntKind.u64 y.n) ∧ ((True ∧ True) ∧ tA3 x x_1 y = tA3 x x_1 y ∧ True) ∧ (BN.mk (tA3 x x_1 y) (wr IntKind.u64 y.n)).Low ∧ (tK x x_1 y) ∧ tK x
  x_1 y) ∧ tL x x_1 y) ∧ (True ∧ y.tx = y.tx ∧ True) ∧ ((True ∧ True) ∧ tA2 x x_1 = tA2 x x_1 ∧ True) ∧ (BH.mk (tA2 x x_1) y.tx).Ok ∧ tL x x_1 y) ∧
  ((True ∧ y.tx = y.tx ∧ True) ∧ ((True ∧ True) ∧ tA2 x x_1 = tA2 x x_1 ∧ True) ∧ (BH.mk (tA2 x x_1) y.tx).Ok ∧ tL x x_1 y) ∧ (True ∧ y.tx = y.tx ∧ True)
  ∧ ((True ∧ True) ∧ tA2 x x_1 = tA2 x x_1 ∧ True) ∧ (BH.mk (tA2 x x_1) y.tx).Ok ∧ tL x x_1 y) ∧ ((True ∧ y.tx = y.tx ∧ True) ∧ ((True ∧ True) ∧ tA2 x
  x_1 = tA2 x x_1 ∧ True) ∧ (BH.mk (tA2 x x_1) y.tx).Ok ∧ (tL x x_1 y) ∧ tL x x_1 y) ∧ (((True ∧ y.tx = y.tx ∧ True) ∧ ((True ∧ True) ∧ tA2 x x_1 = tA2 x
  x_1 ∧ True) ∧ (BH.mk (tA2 x x_1) y.tx).Ok ∧ (tL x x_1 y) ∧ tL x x_1 y) ∧ (True ∧ y.tx = y.tx ∧ True) ∧ ((True ∧ True) ∧ tA2 x x_1 = tA2 x x_1 ∧ True) ∧
  (BH.mk (tA2 x x_1) y.tx).Ok ∧ tL x x_1 y) ∧ ((True ∧ y.tx = y.tx ∧ True) ∧ ((True ∧ True) ∧ tA2 x x_1 = tA2 x x_1 ∧ True) ∧ (BH.mk (tA2 x x_1) y.tx).Ok
  ∧ tL x x_1 y) ∧ (True ∧ y.tx = y.tx ∧ True) ∧ ((True ∧ True) ∧ tA2 x x_1 = tA2 x x_1 ∧ True) ∧ (BH.mk (tA2 x x_1) y.tx).Ok ∧ tL x x_1 y) ∧ (decide
  ((↑x_1 : Int) < (↑x.ins.length : Int)) = false → (↑x.outs.length : Int) ≤ (9223372036854775807 : Int) → (True ∧ wr IntKind.u64 (↑x.outs.length : Int) =
  wr IntKind.u64 (↑x.outs.length : Int)) ∧ ((True ∧ True) ∧ tA2 x x_1 = tA2 x x_1 ∧ True) ∧ (BN.mk (tA2 x x_1) (wr IntKind.u64 (↑x.outs.length :
  Int))).Low ∧ True ∧ ((True ∧ True) ∧ tA6 x x_1 = tA6 x x_1 ∧ True) ∧ (tA6 x x_1).length.le (1099511627776 : Nat) ∧ ((↑x.outs.length : Int) ≤
  (9223372036854775807 : Int) → (∃ x_2, Nat.le x_2 x.outs.length ∧ ((↑x_2 : Int) = (0 : Int) ∧ True) ∧ tH2 x x_1 ∧ tA7 x x_1 x_2 = tA6 x x_1 ∧ True) ∧ ∀
  (x_2 : Nat), x_2.le x.outs.length → (decide ((↑x_2 : Int) < (↑x.outs.length : Int)) = true → (0 : Int) ≤ (↑x_2 : Int) ∧ (↑x_2 : Int) < (↑x.outs.length
  : Int) ∧ ∀ (y : AA (90 : Nat)), x.outs[(↑x_2 : Int).toNat]? = some y → (True ∧ True ∧ True ∧ ((True ∧ wr IntKind.u64 y.amount = wr IntKind.u64
  y.amount) ∧ ((SV.val (A := AA) (Value.slice none (0 : Nat) (0 : Nat)) = SV.val (A := AA) (Value.slice none (0 : Nat) (0 : Nat)) ∧ True) ∧ ([] : List
  Int) = [] ∧ True) ∧ (BN.mk [] (wr IntKind.u64 y.amount)).Low ∧ (True ∧ ((True ∧ True) ∧ tA8 y = tA8 y ∧ True) ∧ (tA8 y).length.le (1099511627776 : Nat)
  ∧ (tM x x_1 x_2 y) ∧ tM x x_1 x_2 y) ∧ True ∧ ((True ∧ True) ∧ tA8 y = tA8 y ∧ True) ∧ (tA8 y).length.le (1099511627776 : Nat) ∧ tM x x_1 x_2 y) ∧
  (True ∧ wr IntKind.u64 y.amount = wr IntKind.u64 y.amount) ∧ ((SV.val (A := AA) (Value.slice none (0 : Nat) (0 : Nat)) = SV.val (A := AA) (Value.slice
  none (0 : Nat) (0 : Nat)) ∧ True) ∧ ([] : List Int) = [] ∧ True) ∧ (BN.mk [] (wr IntKind.u64 y.amount)).Low ∧ True ∧ ((True ∧ True) ∧ tA8 y = tA8 y ∧
  True) ∧ (tA8 y).length.le (1099511627776 : Nat) ∧ tM x x_1 x_2 y) ∧ True ∧ True ∧ True ∧ (True ∧ wr IntKind.u64 y.amount = wr IntKind.u64 y.amount) ∧
  ((SV.val (A := AA) (Value.slice none (0 : Nat) (0 : Nat)) = SV.val (A := AA) (Value.slice none (0 : Nat) (0 : Nat)) ∧ True) ∧ ([] : List Int) = [] ∧
  True) ∧ (BN.mk [] (wr IntKind.u64 y.amount)).Low ∧ True ∧ ((True ∧ True) ∧ tA8 y = tA8 y ∧ True) ∧ (tA8 y).length.le (1099511627776 : Nat) ∧ tM x x_1
  x_2 y) ∧ (decide ((↑x_2 : Int) < (↑x.outs.length : Int)) = false → tA7 x x_1 x_2 = tA7 x x_1 x_2 ∧ True ∧ Bytes (tA7 x x_1 x_2) ∧ (idB x = sumB orderL
  (tA7 x x_1 x_2) ∧ True) ∧ True ∧ True))))
def tidVC : Prop := ∀ (x : TxD), TxOk x → (True ∧ True ∧ True ∧ ((True ∧ wr IntKind.u64 x.lock = wr IntKind.u64 x.lock) ∧ (((SV.val (A := AA) (Value.slice none (0 : Nat)
  (0 : Nat)) : SV AA) = SV.val (A := AA) (Value.slice none (0 : Nat) (0 : Nat)) ∧ True) ∧ ([] : List Int) = [] ∧ True) ∧ (BN.mk [] (wr IntKind.u64
  x.lock)).Low ∧ ((↑x.ins.length : Int) ≤ (9223372036854775807 : Int) → (True ∧ wr IntKind.u64 (↑x.ins.length : Int) = wr IntKind.u64 (↑x.ins.length :
  Int)) ∧ ((True ∧ True) ∧ tA0 x = tA0 x ∧ True) ∧ (BN.mk (tA0 x) (wr IntKind.u64 (↑x.ins.length : Int))).Low ∧ tBody x)) ∧ ((↑x.ins.length : Int) ≤
  (9223372036854775807 : Int) → (True ∧ wr IntKind.u64 x.lock = wr IntKind.u64 x.lock) ∧ (((SV.val (A := AA) (Value.slice none (0 : Nat) (0 : Nat)) : SV
  AA) = SV.val (A := AA) (Value.slice none (0 : Nat) (0 : Nat)) ∧ True) ∧ ([] : List Int) = [] ∧ True) ∧ (BN.mk [] (wr IntKind.u64 x.lock)).Low ∧ (True ∧
  wr IntKind.u64 (↑x.ins.length : Int) = wr IntKind.u64 (↑x.ins.length : Int)) ∧ ((True ∧ True) ∧ tA0 x = tA0 x ∧ True) ∧ (BN.mk (tA0 x) (wr IntKind.u64
  (↑x.ins.length : Int))).Low ∧ tBody x)) ∧ ((↑x.ins.length : Int) ≤ (9223372036854775807 : Int) → True ∧ True ∧ True ∧ (True ∧ wr IntKind.u64 x.lock =
  wr IntKind.u64 x.lock) ∧ (((SV.val (A := AA) (Value.slice none (0 : Nat) (0 : Nat)) : SV AA) = SV.val (A := AA) (Value.slice none (0 : Nat) (0 : Nat))
  ∧ True) ∧ ([] : List Int) = [] ∧ True) ∧ (BN.mk [] (wr IntKind.u64 x.lock)).Low ∧ (True ∧ wr IntKind.u64 (↑x.ins.length : Int) = wr IntKind.u64
  (↑x.ins.length : Int)) ∧ ((True ∧ True) ∧ tA0 x = tA0 x ∧ True) ∧ (BN.mk (tA0 x) (wr IntKind.u64 (↑x.ins.length : Int))).Low ∧ tBody x)
theorem tid_eq : tidVC = fnS E91 f31 (bodyOf f31) idLS noAnn := by kernel_rfl
theorem low_of {xs : List Int} {n : Int} (h : xs.length ≤ 1000000000000) : (BN.mk xs (wr .u64 n)).Low := ⟨h, u64_wr n⟩
theorem tA1_le (x : TxD) : (tA1 x).length ≤ 18 := by
  have h1 := uintB_le x.lock
  have h2 := uintB_le (x.ins.length : Int)
  simp only [tA1, List.nil_append, List.length_append]
  omega
theorem sec0_le : ∀ x : TIn, (secOf 76 x).length ≤ 0 := fun _ => Nat.le_refl _
theorem tA2_le {x : TxD} (h : TxOk x) (k : Nat) : (tA2 x k).length ≤ 18 + 52 * x.ins.length := by
  have h1 := tA1_le x
  have h2 := insB_take_le sec0_le (fun y hy => (h.tx y hy).1) k
  simp only [tA2, List.length_append]
  omega
theorem tA6_le {x : TxD} (h : TxOk x) (k : Nat) : (tA6 x k).length ≤ 27 + 52 * x.ins.length := by
  have h1 := tA2_le h k
  have h2 := uintB_le (x.outs.length : Int)
  simp only [tA6, List.length_append]
  omega
theorem tA7_le {x : TxD} (h : TxOk x) (k i : Nat) : (tA7 x k i).length ≤ 27 + 52 * x.ins.length + 18 * x.outs.length + 59 * sumW x.outs := by
  have h1 := tA6_le h k
  have h2 := toutsB_take_le (fun o ho => (h.locks o ho).1) i
  simp only [tA7, List.length_append]
  omega
theorem tF_ok {x : TxD} (hx : TxOk x) {k : Nat} (hk : k < x.ins.length) {y : TIn} (hy : x.ins[k]? = some y) : tF x k y := by
  have h1 := hx.n
  refine ⟨by unfold inI64; omega, k + 1, hk, by omega, by omega, tH_ok x, ?_, trivial⟩
  rw [insB_up hy]
  simp only [tA5, tA4, tA3, tA2, inB, List.append_assoc]
  rfl
theorem tG_ok {x : TxD} (hx : TxOk x) {k : Nat} (hk : k < x.ins.length) {y : TIn} (hy : x.ins[k]? = some y) : tG x k y := by
  have h1 := hx.n
  have h2 := tA2_le hx k
  have h3 := (hx.tx y (List.mem_of_getElem? hy)).1
  have h4 := uintB_le y.n
  have h5 := uintB_le y.branch
  refine ⟨⟨rfl, rfl, rfl, rfl, trivial⟩, trivial, trivial, ⟨trivial, rfl⟩, ⟨⟨trivial, trivial⟩, rfl, trivial⟩, ⟨?_, by simp⟩, tF_ok hx hk hy⟩
  simp only [tA5, tA4, tA3, List.length_append]
  omega
theorem tK_ok {x : TxD} (hx : TxOk x) {k : Nat} (hk : k < x.ins.length) {y : TIn} (hy : x.ins[k]? = some y) : tK x k y := by
  have h1 := hx.n
  have h2 := tA2_le hx k
  have h3 := (hx.tx y (List.mem_of_getElem? hy)).1
  have h4 := uintB_le y.n
  refine ⟨⟨trivial, rfl⟩, ⟨⟨trivial, trivial⟩, rfl, trivial⟩, low_of ?_, tG_ok hx hk hy⟩
  simp only [tA4, tA3, List.length_append]
  omega
theorem tL_ok {x : TxD} (hx : TxOk x) {k : Nat} (hk : k < x.ins.length) {y : TIn} (hy : x.ins[k]? = some y) : tL x k y := by
  have h1 := hx.n
  have h2 := tA2_le hx k
  have h3 := (hx.tx y (List.mem_of_getElem? hy)).1
  refine ⟨⟨trivial, rfl⟩, ⟨⟨trivial, trivial⟩, rfl, trivial⟩, low_of ?_, tK_ok hx hk hy⟩
  simp only [tA3, List.length_append]
  omega
theorem tM_ok {x : TxD} (hx : TxOk x) (k : Nat) {i : Nat} (hi : i < x.outs.length) {y : TOut} (hy : x.outs[i]? = some y) : tM x k i y := by
  have h1 := hx.n
  have h2 := hx.m
  have h3 := hx.w
  have h4 := tA7_le hx k i
  have h5 := uintB_le y.amount
  have h6 := weight_sum (List.mem_of_getElem? hy)
  have h7 : (tA8 y).length ≤ 9 := by simp only [tA8, List.nil_append]; exact h5
  refine ⟨by omega, by omega, ⟨rfl, rfl, trivial⟩, trivial, ⟨?_, show weight y.cond ≤ 2000000 by omega, (hx.locks y (List.mem_of_getElem? hy)).1⟩, by unfold inI64; omega, i + 1, hi, by omega, ⟨by omega, trivial⟩, tH2_ok x k, ?_, trivial⟩
  · simp only [List.length_append]
    omega
  · rw [toutsB_up hy]
    simp only [tA7, tA8, toutB, List.nil_append, List.append_assoc]
theorem tA7_all {x : TxD} {k i : Nat} (hk : x.ins.length ≤ k) (hi : x.outs.length ≤ i) : tA7 x k i = putTx (fun _ => []) x := by
  simp only [tA7, tA6, tA2, tA1, putTx, List.take_of_length_le hk, List.take_of_length_le hi, List.nil_append]
  rfl
theorem putTx_byt {x : TxD} (hx : TxOk x) : Byt (putTx (fun _ => []) x) :=
  byt_app (byt_app (byt_app (byt_app (uintB_byt _) (uintB_byt _)) (insB_byt (fun _ => byt_nil) fun y hy => (hx.tx y hy).2)) (uintB_byt _)) (toutsB_byt fun o ho => (hx.locks o ho).2)
theorem tBody_ok {x : TxD} (hx : TxOk x) : tBody x := by
  have h1 := hx.n
  have h2 := hx.m
  have h3 := hx.w
  unfold tBody
  simp only [true_and, and_true, decide_eq_true_eq, decide_eq_false_iff_not, Int.toNat_natCast, tH_ok, tH2_ok]
  refine fun _ => ⟨⟨0, Nat.zero_le _, rfl, by simp [tA2, insB]⟩, fun k hk => ⟨fun h => ?_, fun h _ => ?_⟩⟩
  · have hk' : k < x.ins.length := by omega
    refine ⟨by omega, h, fun y hy => ?_⟩
    have p1 := tL_ok hx hk' (y := y) hy
    have p2 := tK_ok hx hk' (y := y) hy
    have p3 := tA2_le hx k
    have p4 : y.tx.length = 32 := (hx.tx y (List.mem_of_getElem? hy)).1
    have p5 : (BH.mk (tA2 x k) y.tx).Ok := ⟨show (tA2 x k).length ≤ 1099511627776 by omega, p4⟩
    have p6 : (BN.mk (tA3 x k y) (wr .u64 y.n)).Low := p1.2.2.1
    simp only [p1, p2, p5, p6, and_self]
  · have q1 := tA2_le hx k
    have q2 := tA6_le hx k
    refine ⟨low_of (by omega), show (tA6 x k).length ≤ 1099511627776 by omega, fun _ => ⟨⟨0, Nat.zero_le _, rfl, by simp [tA7, toutsB]⟩, fun i hi => ⟨fun h4 => ?_, fun h4 => ?_⟩⟩⟩
    · have hi' : i < x.outs.length := by omega
      refine ⟨by omega, h4, fun y hy => ?_⟩
      have p1 := tM_ok hx k hi' (y := y) hy
      have p2 : (BN.mk [] (wr .u64 y.amount)).Low := low_of (by simp)
      have p3 : (tA8 y).length.le 1099511627776 := by
        have := uintB_le y.amount
        show (tA8 y).length ≤ 1099511627776
        simp only [tA8, List.nil_append]
        omega
      simp only [p1, p2, p3, and_self]
    · rw [tA7_all (by omega) (by omega)]
      have hl := tA7_le hx x.ins.length x.outs.length
      rw [tA7_all (Nat.le_refl _) (Nat.le_refl _)] at hl
      exact ⟨⟨putTx_byt hx, by omega⟩, rfl⟩
theorem tid_vc : tidVC := by
  intro x hx
  have h1 := tBody_ok hx
  have h2 : (BN.mk [] (wr .u64 x.lock)).Low := low_of (by simp)
  have h3 : (BN.mk (tA0 x) (wr .u64 (x.ins.length : Int))).Low := low_of (by
    have := uintB_le x.lock
    simp only [tA0, List.nil_append]
    omega)
  simp only [h1, h2, h3, and_self, implies_true]
theorem tid_ok : Fits E91 f31 (bodyOf f31) idLS noAnn := by
  constructor
  rw [← tid_eq]
  exact tid_vc
theorem f37_has : Has prog 31 f31 (bodyOf f31) := ⟨by kernel_rfl, by kernel_rfl, by kernel_rfl⟩
theorem known92 : Known prog L92 := by
  unfold L92
  exact known91.lent mixed f37_has E91_eq tid_ok (fun _ _ => Nat.le_refl _) (fun _ _ => rfl)
end Go.Proofs.YtcglahfmnoghjaaGreatDoor

/-! At, sure, the document's total, the totals' law: the walks hold. Conditions: none. -/
namespace Go.Proofs.YtcglahfmnoghjaaGreatDoor
open Go Go.Eng Go.Proofs.Tryz

def tatVC : Prop := ∀ (x : AtX), TxOk x.t → (x.t.lock = x.t.lock ∧ x.t.ins = x.t.ins ∧ x.t.outs = x.t.outs ∧ True) ∧ True ∧ TxOk (TxD.mk x.t.lock x.t.ins x.t.outs) ∧ (idB
  x.t = idB (TxD.mk x.t.lock x.t.ins x.t.outs) ∧ x.n = x.n ∧ True) ∧ True ∧ True
theorem tat_eq : tatVC = fnS E92 f17 (bodyOf f17) atLS noAnn := by kernel_rfl
theorem tat_ok : Fits E92 f17 (bodyOf f17) atLS noAnn := by
  constructor
  rw [← tat_eq]
  exact fun x hx => ⟨⟨rfl, rfl, rfl, trivial⟩, trivial, hx, ⟨rfl, rfl, trivial⟩, trivial, trivial⟩
theorem f63_has : Has prog 17 f17 (bodyOf f17) := ⟨by kernel_rfl, by kernel_rfl, by kernel_rfl⟩
theorem known93 : Known prog L93 := by
  unfold L93
  exact known92.lent mixed f63_has E92_eq tat_ok (fun _ _ => Nat.le_refl _) (fun _ _ => rfl)
theorem zero_tx : (List.replicate 32 (0 : Int)).length = 32 ∧ Byt (List.replicate 32 (0 : Int)) := by
  refine ⟨by simp, fun y hy => ?_⟩
  rw [List.eq_of_mem_replicate hy]
  omega
theorem allOf_1 : allOf [1] = [⟨[1], List.replicate 32 0, 0, 0⟩] := by
  unfold allOf
  have h : Lib.compact (sortI [1]) = [1] := by
    have : sortI [1] = [1] := by simp [sortI]
    rw [this]
    decide
  rw [h]
theorem sure_tx (s : List Int) : TxOk (TxD.mk 0 [TIn.mk (List.replicate 32 0) 0 0 s] [TOut.mk 5 (allOf [1])]) where
  n := by simp
  m := by simp
  w := by
    rw [allOf_1]
    simp [sumW, weight, sumK]
  tx := fun x hx => by
    simp only [List.mem_singleton] at hx
    rw [hx]
    exact zero_tx
  locks := fun o ho => by
    simp only [List.mem_singleton] at ho
    rw [ho, allOf_1]
    refine ⟨fun b hb => ?_, fun b hb => ?_⟩
    · simp only [List.mem_singleton] at hb
      rw [hb]
      simp
    · simp only [List.mem_singleton] at hb
      rw [hb]
      exact zero_tx.2
theorem sure_check : checkT (TxD.mk 0 [TIn.mk (List.replicate 32 0) 0 0 []] [TOut.mk 5 (allOf [1])]) = 27 := by
  unfold checkT
  rw [if_neg (by simp [someB, badIn, inOk]), if_neg (by simp)]
  simp [outsE, outE]
def sure5VC : Prop := ∀ (_ : Unit), True → (List.replicate (32 : Nat) (0 : Int) = List.replicate (32 : Nat) (0 : Int) ∧ (0 : Int) = (0 : Int) ∧ (0 : Int) = (0 : Int) ∧ ([] :
  List Int) = [] ∧ True) ∧ [(1 : Int)] = [(1 : Int)] ∧ True ∧ [(1 : Int)].length.le (1000000 : Nat) ∧ ((5 : Int) = (5 : Int) ∧
  Proofs.YtcglahfmnoghjaaGreatDoor.allOf [(1 : Int)] = Proofs.YtcglahfmnoghjaaGreatDoor.allOf [(1 : Int)] ∧ True) ∧ [(115 : Int)] ≠ [] ∧ (List.replicate (32 : Nat)
  (0 : Int) = List.replicate (32 : Nat) (0 : Int) ∧ (0 : Int) = (0 : Int) ∧ (0 : Int) = (0 : Int) ∧ [(115 : Int)] = [(115 : Int)] ∧ True) ∧ [(1 : Int)] =
  [(1 : Int)] ∧ True ∧ [(1 : Int)].length.le (1000000 : Nat) ∧ ((5 : Int) = (5 : Int) ∧ Proofs.YtcglahfmnoghjaaGreatDoor.allOf [(1 : Int)] =
  Proofs.YtcglahfmnoghjaaGreatDoor.allOf [(1 : Int)] ∧ True) ∧ ((0 : Int) = (0 : Int) ∧ [TIn.mk (List.replicate (32 : Nat) (0 : Int)) (0 : Int) (0 : Int) []]
  = [TIn.mk (List.replicate (32 : Nat) (0 : Int)) (0 : Int) (0 : Int) []] ∧ [TOut.mk (5 : Int) (Proofs.YtcglahfmnoghjaaGreatDoor.allOf [(1 : Int)])] =
  [TOut.mk (5 : Int) (Proofs.YtcglahfmnoghjaaGreatDoor.allOf [(1 : Int)])] ∧ True) ∧ True ∧ True ∧ ((checkT (TxD.mk (0 : Int) [TIn.mk (List.replicate (32 :
  Nat) (0 : Int)) (0 : Int) (0 : Int) []] [TOut.mk (5 : Int) (Proofs.YtcglahfmnoghjaaGreatDoor.allOf [(1 : Int)])]) == (27 : Int)) = true → ((0 : Int) = (0 :
  Int) ∧ [TIn.mk (List.replicate (32 : Nat) (0 : Int)) (0 : Int) (0 : Int) []] = [TIn.mk (List.replicate (32 : Nat) (0 : Int)) (0 : Int) (0 : Int) []] ∧
  [TOut.mk (5 : Int) (Proofs.YtcglahfmnoghjaaGreatDoor.allOf [(1 : Int)])] = [TOut.mk (5 : Int) (Proofs.YtcglahfmnoghjaaGreatDoor.allOf [(1 : Int)])] ∧ True) ∧
  True ∧ TxOk (TxD.mk (0 : Int) [TIn.mk (List.replicate (32 : Nat) (0 : Int)) (0 : Int) (0 : Int) []] [TOut.mk (5 : Int)
  (Proofs.YtcglahfmnoghjaaGreatDoor.allOf [(1 : Int)])]) ∧ ((0 : Int) = (0 : Int) ∧ [TIn.mk (List.replicate (32 : Nat) (0 : Int)) (0 : Int) (0 : Int) [(115 :
  Int)]] = [TIn.mk (List.replicate (32 : Nat) (0 : Int)) (0 : Int) (0 : Int) [(115 : Int)]] ∧ [TOut.mk (5 : Int) (Proofs.YtcglahfmnoghjaaGreatDoor.allOf [(1 :
  Int)])] = [TOut.mk (5 : Int) (Proofs.YtcglahfmnoghjaaGreatDoor.allOf [(1 : Int)])] ∧ True) ∧ True ∧ TxOk (TxD.mk (0 : Int) [TIn.mk (List.replicate (32 :
  Nat) (0 : Int)) (0 : Int) (0 : Int) [(115 : Int)]] [TOut.mk (5 : Int) (Proofs.YtcglahfmnoghjaaGreatDoor.allOf [(1 : Int)])]) ∧ ((idB (TxD.mk (0 : Int)
  [TIn.mk (List.replicate (32 : Nat) (0 : Int)) (0 : Int) (0 : Int) []] [TOut.mk (5 : Int) (Proofs.YtcglahfmnoghjaaGreatDoor.allOf [(1 : Int)])]) == idB
  (TxD.mk (0 : Int) [TIn.mk (List.replicate (32 : Nat) (0 : Int)) (0 : Int) (0 : Int) [(115 : Int)]] [TOut.mk (5 : Int)
  (Proofs.YtcglahfmnoghjaaGreatDoor.allOf [(1 : Int)])])) = true → (((0 : Int) = (0 : Int) ∧ [TIn.mk (List.replicate (32 : Nat) (0 : Int)) (0 : Int) (0 : Int)
  []] = [TIn.mk (List.replicate (32 : Nat) (0 : Int)) (0 : Int) (0 : Int) []] ∧ [TOut.mk (5 : Int) (Proofs.YtcglahfmnoghjaaGreatDoor.allOf [(1 : Int)])] =
  [TOut.mk (5 : Int) (Proofs.YtcglahfmnoghjaaGreatDoor.allOf [(1 : Int)])] ∧ True) ∧ (3 : Int) = (3 : Int)) ∧ True ∧ TxOk (TxD.mk (0 : Int) [TIn.mk
  (List.replicate (32 : Nat) (0 : Int)) (0 : Int) (0 : Int) []] [TOut.mk (5 : Int) (Proofs.YtcglahfmnoghjaaGreatDoor.allOf [(1 : Int)])]) ∧ true = ((3 : Int)
  == (3 : Int)) ∧ True ∧ True) ∧ ((idB (TxD.mk (0 : Int) [TIn.mk (List.replicate (32 : Nat) (0 : Int)) (0 : Int) (0 : Int) []] [TOut.mk (5 : Int)
  (Proofs.YtcglahfmnoghjaaGreatDoor.allOf [(1 : Int)])]) == idB (TxD.mk (0 : Int) [TIn.mk (List.replicate (32 : Nat) (0 : Int)) (0 : Int) (0 : Int) [(115 :
  Int)]] [TOut.mk (5 : Int) (Proofs.YtcglahfmnoghjaaGreatDoor.allOf [(1 : Int)])])) = false → true = false ∧ True ∧ True)) ∧ ((checkT (TxD.mk (0 : Int)
  [TIn.mk (List.replicate (32 : Nat) (0 : Int)) (0 : Int) (0 : Int) []] [TOut.mk (5 : Int) (Proofs.YtcglahfmnoghjaaGreatDoor.allOf [(1 : Int)])]) == (27 :
  Int)) = false → true = false ∧ True ∧ True)
theorem sure5_eq : sure5VC = fnS E93 f9 (bodyOf f9) sureLS noAnn := by kernel_rfl
theorem sure5_vc : sure5VC := by
  intro _ _
  have h1 := sure_tx []
  have h2 := sure_tx [115]
  have h3 : idB (TxD.mk 0 [TIn.mk (List.replicate 32 0) 0 0 [115]] [TOut.mk 5 (allOf [1])]) = idB (TxD.mk 0 [TIn.mk (List.replicate 32 0) 0 0 []] [TOut.mk 5 (allOf [1])]) := rfl
  have h4 : [(1 : Int)].length.le 1000000 := show 1 ≤ 1000000 by decide
  simp only [sure_check, h1, h2, h3, h4, beq_self_eq_true, true_and, and_true, Bool.true_eq_false, false_implies, implies_true, forall_const, ne_eq, List.cons_ne_nil, not_false_eq_true]
theorem sure5_ok : Fits E93 f9 (bodyOf f9) sureLS noAnn := by
  constructor
  rw [← sure5_eq]
  exact sure5_vc
theorem f30_has : Has prog 9 f9 (bodyOf f9) := ⟨by kernel_rfl, by kernel_rfl, by kernel_rfl⟩
theorem known94 : Known prog L94 := by
  unfold L94
  exact known93.lent mixed f30_has E93_eq sure5_ok (fun _ _ => Nat.le_refl _) (fun _ _ => rfl)
def rTotalVC : Prop := ∀ (x : TxD), True → (∃ (x_1 : Nat × Int), (x_1.fst ≤ x.outs.length ∧ (0 : Int) ≤ x_1.snd ∧ x_1.snd ≤ (1125899906842624 : Int) ∧ totG x.outs (0 : Int) =
  totG (List.drop x_1.fst x.outs) x_1.snd) ∧ ((↑x_1.fst : Int) = (0 : Int) ∧ x_1.snd = (0 : Int)) ∧ ((x.lock = x.lock ∧ x.ins = x.ins ∧ x.outs = x.outs ∧
  True) ∧ True) ∧ True) ∧ ∀ (x_1 : Nat × Int), x_1.fst ≤ x.outs.length ∧ (0 : Int) ≤ x_1.snd ∧ x_1.snd ≤ (1125899906842624 : Int) ∧ totG x.outs (0 : Int)
  = totG (List.drop x_1.fst x.outs) x_1.snd → (↑x.outs.length : Int) ≤ (9223372036854775807 : Int) → (decide ((↑x_1.fst : Int) < (↑x.outs.length : Int))
  = true → (0 : Int) ≤ (↑x_1.fst : Int) ∧ (↑x_1.fst : Int) < (↑x.outs.length : Int) ∧ ∀ (y : AA (82 : Nat)), x.outs[(↑x_1.fst : Int).toNat]? = some y →
  (decide (y.amount < (0 : Int)) = true → ((totG x.outs (0 : Int)).fst = (0 : Int) ∧ (totG x.outs (0 : Int)).snd = (5 : Int)) ∧ True ∧ True) ∧ (decide
  (y.amount < (0 : Int)) = false → (decide (y.amount > (1125899906842624 : Int)) = true → ((totG x.outs (0 : Int)).fst = (0 : Int) ∧ (totG x.outs (0 :
  Int)).snd = (5 : Int)) ∧ True ∧ True) ∧ (decide (y.amount > (1125899906842624 : Int)) = false → inI64 (x_1.snd + y.amount) ∧ (decide (x_1.snd +
  y.amount > (1125899906842624 : Int)) = true → ((totG x.outs (0 : Int)).fst = (0 : Int) ∧ (totG x.outs (0 : Int)).snd = (5 : Int)) ∧ True ∧ True) ∧
  (decide (x_1.snd + y.amount > (1125899906842624 : Int)) = false → inI64 (x_1.snd + y.amount) ∧ inI64 ((↑x_1.fst : Int) + (1 : Int)) ∧ ∃ (y_1 : Nat ×
  Int), (y_1.fst ≤ x.outs.length ∧ (0 : Int) ≤ y_1.snd ∧ y_1.snd ≤ (1125899906842624 : Int) ∧ totG x.outs (0 : Int) = totG (List.drop y_1.fst x.outs)
  y_1.snd) ∧ x.outs.length - y_1.fst < x.outs.length - x_1.fst ∧ ((↑y_1.fst : Int) = (↑x_1.fst : Int) + (1 : Int) ∧ y_1.snd = x_1.snd + y.amount) ∧
  ((x.lock = x.lock ∧ x.ins = x.ins ∧ x.outs = x.outs ∧ True) ∧ True) ∧ True)))) ∧ (decide ((↑x_1.fst : Int) < (↑x.outs.length : Int)) = false → ((totG
  x.outs (0 : Int)).fst = x_1.snd ∧ (totG x.outs (0 : Int)).snd = (0 : Int)) ∧ True ∧ True)
theorem rTotal_eq : rTotalVC = fnS E94 f115 (bodyOf f115) rTotalLS rTotalAnn := by kernel_rfl
theorem rTotal_vc : rTotalVC := by
  rintro ⟨lock, ins, outs⟩ _
  simp only [true_and, and_true, decide_eq_true_eq, decide_eq_false_iff_not, Int.toNat_natCast]
  refine ⟨⟨(0, 0), ⟨Nat.zero_le _, by simp, by simp, rfl⟩, rfl, rfl⟩, ?_⟩
  rintro ⟨i, n⟩ ⟨h1, h3, h4, h5⟩ hl
  simp only at h1 h3 h4 h5 ⊢
  refine ⟨fun h => ?_, fun h => ?_⟩
  · refine ⟨by omega, h, fun y hy => ?_⟩
    have hd := dropAt (α := TOut) (y := y) hy
    have five : (y.amount < 0 ∨ y.amount > 1125899906842624 - n) → totG outs 0 = (0, 5) := fun hc => by
      rw [h5, hd]
      simp only [totG]
      rw [if_pos hc]
    refine ⟨fun hc => ?_, fun hc => ⟨fun hc2 => ?_, fun hc2 => ⟨by unfold inI64; omega, fun hc3 => ?_, fun hc3 => ⟨by unfold inI64; omega, by unfold inI64; omega, (i + 1, n + y.amount), ⟨?_, ?_, ?_, ?_⟩, ?_, ?_, ?_⟩⟩⟩⟩
    · rw [five (.inl hc)]; exact ⟨rfl, rfl⟩
    · rw [five (.inr (by omega))]; exact ⟨rfl, rfl⟩
    · rw [five (.inr (by omega))]; exact ⟨rfl, rfl⟩
    · simp only; omega
    · simp only; omega
    · simp only; omega
    · rw [h5, hd]
      simp only [totG]
      rw [if_neg (by omega)]
    · simp only; omega
    · simp only; omega
    · rfl
  · rw [h5, List.drop_of_length_le (by omega)]
    exact ⟨rfl, rfl⟩
theorem rTotal_ok : Fits E94 f115 (bodyOf f115) rTotalLS rTotalAnn := by
  constructor
  rw [← rTotal_eq]
  exact rTotal_vc
theorem f33_has : Has prog 115 f115 (bodyOf f115) := ⟨by kernel_rfl, by kernel_rfl, by kernel_rfl⟩
theorem known95 : Known prog L95 := by
  unfold L95
  exact known94.lent mixed f33_has E94_eq rTotal_ok (fun _ _ => Nat.le_refl _) (fun _ _ => rfl)
theorem amounts_up {xs : List Int} {i : Nat} (h : i < xs.length) : amounts (xs.take (i + 1)) = amounts (xs.take i) ++ [TOut.mk (xs.getD i 0) []] := by
  unfold amounts
  rw [take_up h rfl]
  simp
def totalsVC : Prop := ∀ (x : List Int), True → (↑x.length : Int) ≤ (9223372036854775807 : Int) → (decide ((↑x.length : Int) > (300 : Int)) = true → True ∧ True ∧ True ∧ true
  = true ∧ True ∧ True) ∧ (decide ((↑x.length : Int) > (300 : Int)) = false → (∃ x_1, Nat.le x_1 x.length ∧ (↑x_1 : Int) = (0 : Int) ∧ (((0 : Int) = (0 :
  Int) ∧ (SV.val (A := AA) (Value.slice none (0 : Nat) (0 : Nat)) : SV AA) = SV.val (A := AA) (Value.slice none (0 : Nat) (0 : Nat)) ∧ (SV.val (A := AA)
  (Value.slice none (0 : Nat) (0 : Nat)) : SV AA) = SV.val (A := AA) (Value.slice none (0 : Nat) (0 : Nat)) ∧ True) ∧ ((0 : Int) = (0 : Int) ∧ (SV.val (A
  := AA) (Value.slice none (0 : Nat) (0 : Nat)) : SV AA) = SV.val (A := AA) (Value.slice none (0 : Nat) (0 : Nat)) ∧ (SV.val (A := AA) (Value.slice none
  (0 : Nat) (0 : Nat)) : SV AA) = SV.val (A := AA) (Value.slice none (0 : Nat) (0 : Nat)) ∧ True) ∧ True) ∧ amounts (List.take x_1 x) = [] ∧ amounts
  (List.take x_1 x) = [] ∧ True) ∧ ∀ (x_1 : Nat), x_1.le x.length → (↑x.length : Int) ≤ (9223372036854775807 : Int) → (decide ((↑x_1 : Int) < (↑x.length
  : Int)) = true → (0 : Int) ≤ (↑x_1 : Int) ∧ (↑x_1 : Int) < (↑x.length : Int) ∧ (↑x_1 : Int).toNat < x.length ∧ (x.getD (↑x_1 : Int).toNat (0 : Int) =
  x.getD (↑x_1 : Int).toNat (0 : Int) ∧ ([] : List Br) = [] ∧ True) ∧ ((amounts (List.take x_1 x)).length + [TOut.mk (x.getD (↑x_1 : Int).toNat (0 :
  Int)) []].length) * (32 : Nat) ≤ (140737488355328 : Nat) ∧ (amounts (List.take x_1 x)).length + [TOut.mk (x.getD (↑x_1 : Int).toNat (0 : Int))
  []].length ≤ (1152921504606846976 : Nat) ∧ (0 : Int) ≤ (↑x_1 : Int) ∧ (↑x_1 : Int) < (↑x.length : Int) ∧ (↑x_1 : Int).toNat < x.length ∧ (x.getD (↑x_1
  : Int).toNat (0 : Int) = x.getD (↑x_1 : Int).toNat (0 : Int) ∧ ([] : List Br) = [] ∧ True) ∧ ((amounts (List.take x_1 x)).length + [TOut.mk (x.getD
  (↑x_1 : Int).toNat (0 : Int)) []].length) * (32 : Nat) ≤ (140737488355328 : Nat) ∧ (amounts (List.take x_1 x)).length + [TOut.mk (x.getD (↑x_1 :
  Int).toNat (0 : Int)) []].length ≤ (1152921504606846976 : Nat) ∧ inI64 ((↑x_1 : Int) + (1 : Int)) ∧ ∃ y, Nat.le y x.length ∧ x.length - y < x.length -
  x_1 ∧ (↑y : Int) = (↑x_1 : Int) + (1 : Int) ∧ (((0 : Int) = (0 : Int) ∧ (SV.val (A := AA) (Value.slice none (0 : Nat) (0 : Nat)) : SV AA) = SV.val (A
  := AA) (Value.slice none (0 : Nat) (0 : Nat)) ∧ True ∧ True) ∧ ((0 : Int) = (0 : Int) ∧ (SV.val (A := AA) (Value.slice none (0 : Nat) (0 : Nat)) : SV
  AA) = SV.val (A := AA) (Value.slice none (0 : Nat) (0 : Nat)) ∧ True ∧ True) ∧ True) ∧ amounts (List.take y x) = amounts (List.take x_1 x) ++ [TOut.mk
  (x.getD (↑x_1 : Int).toNat (0 : Int)) []] ∧ amounts (List.take y x) = amounts (List.take x_1 x) ++ [TOut.mk (x.getD (↑x_1 : Int).toNat (0 : Int)) []] ∧
  True) ∧ (decide ((↑x_1 : Int) < (↑x.length : Int)) = false → ((0 : Int) = (0 : Int) ∧ ([] : List TIn) = [] ∧ amounts (List.take x_1 x) = amounts
  (List.take x_1 x) ∧ True) ∧ True ∧ True ∧ ((0 : Int) = (0 : Int) ∧ ([] : List TIn) = [] ∧ amounts (List.take x_1 x) = amounts (List.take x_1 x) ∧ True)
  ∧ True ∧ True ∧ (((totG (amounts (List.take x_1 x)) (0 : Int)).fst == (totG (amounts (List.take x_1 x)) (0 : Int)).fst) = true → (((totG (amounts
  (List.take x_1 x)) (0 : Int)).snd == (totG (amounts (List.take x_1 x)) (0 : Int)).snd) = true → True ∧ True ∧ True ∧ true = true ∧ True ∧ True) ∧
  (((totG (amounts (List.take x_1 x)) (0 : Int)).snd == (totG (amounts (List.take x_1 x)) (0 : Int)).snd) = false → true = false ∧ True ∧ True)) ∧
  (((totG (amounts (List.take x_1 x)) (0 : Int)).fst == (totG (amounts (List.take x_1 x)) (0 : Int)).fst) = false → true = false ∧ True ∧ True)))
theorem totals_vc : totalsVC := by
  intro xs _
  simp only [true_and, and_true, decide_eq_true_eq, decide_eq_false_iff_not, Int.toNat_natCast, beq_self_eq_true, Bool.true_eq_false, false_implies, implies_true, List.length_singleton]
  refine fun _ h => ⟨⟨0, Nat.zero_le _, rfl, rfl, rfl⟩, fun i hi _ h2 => ?_⟩
  have hi' : i < xs.length := by omega
  have hl : (amounts (xs.take i)).length ≤ i := by
    simp only [amounts, List.length_map, List.length_take]
    omega
  exact ⟨by omega, h2, hi', by omega, by omega, by omega, h2, hi', by omega, by omega, by unfold inI64; omega, i + 1, hi', by omega, by omega, amounts_up hi', amounts_up hi'⟩
end Go.Proofs.YtcglahfmnoghjaaGreatDoor

/-! A transaction given and checked: what is said of it. Conditions: none. -/
namespace Go.Proofs.YtcglahfmnoghjaaGreatDoor
open Go Go.Eng Go.Proofs.Tryz

def rcondGet (args : List (SV AA)) (sh : List (SO AA)) : Option (List Br) := match args with
  | [.agg (.cell s .nil)] => seqOfS 85 sh s
  | _ => none
def gcondLS : LS AA where
  X := List Br
  pre := fun bs => weight bs ≤ 2000000
  args := fun bs => [.agg (.cell (.rseq 85 (show List (AA 85) from bs)) .nil)]
  hin := fun _ => []
  res := fun bs => [.agg (.cell (.rseq 102 (show List (AA 102) from bs)) .nil)]
  hout := fun _ => []
noncomputable def L96 : List (Nat × SpecT AA) := (37, tLent gcondLS rcondGet) :: L95
noncomputable def F96 : Eng AA := EF prog L96
theorem F96_eq : F96 = EF prog L96 := by
  unfold F96
  rfl
noncomputable def F95 : Eng AA := EF prog L95
theorem F95_eq : F95 = EF prog L95 := by
  unfold F95
  rfl
/-! ## Is one too long to be looked at? -/
def secN : List TIn → Int
  | [] => 0
  | x :: l => (x.secret.length : Int).tdiv 16 + secN l
def keyCut : List Br → Int → Int
  | [], n => n
  | b :: l, n => if n < 400 then keyCut l (n + b.keys.length) else n
def outCut : List TOut → Int → Int
  | [], n => n
  | o :: l, n => outCut l (keyCut o.cond (n + o.cond.length))
def longB (t : TxD) : Bool := if (t.ins.length : Int) + t.outs.length > 300 then true else decide (outCut t.outs ((t.ins.length : Int) + t.outs.length + secN t.ins) > 400)
def sumS : List TIn → Nat
  | [] => 0
  | x :: l => x.secret.length + sumS l
structure Small (t : TxD) : Prop where
  n : t.ins.length ≤ 2000000
  m : t.outs.length ≤ 2000000
  s : ∀ x, x ∈ t.ins → x.secret.length ≤ 2000000
  w : sumW t.outs ≤ 2000000
def longTxLS : LS AA where
  X := TxD
  pre := Small
  args := fun t => [.agg (txRSL t)]
  hin := fun _ => []
  res := fun t => [.sb 0 (longB t)]
  hout := fun _ => []
structure LongI (t : TxD) (i : Nat) (n : Int) : Prop where
  le : i ≤ t.ins.length
  few : (t.ins.length : Int) + t.outs.length ≤ 300
  lo : 0 ≤ n
  hi : n ≤ 300 + 2000000 * (i : Int)
  eq : (t.ins.length : Int) + t.outs.length + secN t.ins = n + secN (t.ins.drop i)
structure LongJ (t : TxD) (j : Nat) (n : Int) : Prop where
  le : j ≤ t.outs.length
  few : (t.ins.length : Int) + t.outs.length ≤ 300
  lo : 0 ≤ n
  hi : n ≤ 1000000000 + 10000000 * (j : Int)
  eq : outCut t.outs ((t.ins.length : Int) + t.outs.length + secN t.ins) = outCut (t.outs.drop j) n
structure LongK (o : TOut) (m : Int) (i : Nat) (n : Int) : Prop where
  le : i ≤ o.cond.length
  lo : 0 ≤ n
  hi : n ≤ 400 + 2000000 ∨ n ≤ m
  eq : keyCut o.cond m = keyCut (o.cond.drop i) n
def longTxAnn (t : TxD) : Anns AA := fun k ts _ => if k = 6 then some {
    X := Nat × Int
    inv := fun x => LongI t x.1 x.2
    meas := fun x => t.ins.length - x.1
    slots := fun x => [(4, .int .i64 x.1), (3, .int .i64 x.2)]
    heap := fun _ => [] }
  else if k = 10 then some {
    X := Nat × Int
    inv := fun x => LongJ t x.1 x.2
    meas := fun x => t.outs.length - x.1
    slots := fun x => [(5, .int .i64 x.1), (3, .int .i64 x.2)]
    heap := fun _ => [] }
  else (match nth ts 3, nth ts 5 with
    | some (.int _ m), some (.int _ j) => some {
      X := Nat × Int
      inv := fun x => ∀ o : TOut, t.outs[j.toNat]? = some o → LongK o m x.1 x.2
      meas := fun x => 2000001 - x.1
      slots := fun x => [(6, .int .i64 x.1), (3, .int .i64 x.2)]
      heap := fun _ => [] }
    | _, _ => none)
noncomputable def L97 : List (Nat × SpecT AA) := (8, tLent longTxLS txRGet) :: L96
noncomputable def F97 : Eng AA := EF prog L97
theorem F97_eq : F97 = EF prog L97 := by
  unfold F97
  rfl
/-! ## Given -/
def giveTxLS : LS AA where
  X := TxD
  pre := Small
  args := fun t => [.agg (txRSL t)]
  hin := fun _ => []
  res := fun t => [.agg (.cell (.int .i64 t.lock) (.cell (.vec 0) (.cell (.vec 1) .nil)))]
  hout := fun t => [.svec 87 (show List (AA 87) from t.ins), .svec 90 (show List (AA 90) from t.outs)]
def giveTxAnn (t : TxD) : Anns AA := fun k _ sh => if k = 4 then some {
    X := Nat
    inv := fun i => i ≤ t.ins.length
    meas := fun i => t.ins.length - i
    slots := fun i => [(4, .int .i64 i)]
    heap := fun _ => [(2, .cells 36 (.cell (.int .i64 t.lock) (.cell (.vec (cnt sh)) (.cell (.val (.slice none 0 0)) .nil))))]
    more := fun i => [.svec 87 (show List (AA 87) from t.ins.take i)] }
  else (match nth sh 2 with
    | some (.cells _ (.cell _ (.cell v _))) => some {
      X := Nat
      inv := fun i => i ≤ t.outs.length
      meas := fun i => t.outs.length - i
      slots := fun i => [(6, .int .i64 i)]
      heap := fun _ => [(2, .cells 36 (.cell (.int .i64 t.lock) (.cell v (.cell (.vec (cnt sh)) .nil))))]
      more := fun i => [.svec 90 (show List (AA 90) from t.outs.take i)] }
    | _ => none)
noncomputable def L98 : List (Nat × SpecT AA) := (10, tLent giveTxLS txRGet) :: L97
noncomputable def F98 : Eng AA := EF prog L98
theorem F98_eq : F98 = EF prog L98 := by
  unfold F98
  rfl
/-! ## The document's check -/
structure Lens (t : TxD) : Prop where
  n : t.ins.length ≤ 2000000
  m : t.outs.length ≤ 2000000
  c : ∀ o, o ∈ t.outs → o.cond.length ≤ 2000000
noncomputable def rcheckLS : LS AA where
  X := TxD
  pre := Lens
  args := fun t => [.agg (txRSL t)]
  hin := fun _ => []
  res := fun t => [.int .i64 (checkT t)]
  hout := fun _ => []
noncomputable def rcheckAnn (t : TxD) : Anns AA := fun k ts _ => if k = 5 then some {
    X := Nat
    inv := fun i => i ≤ t.ins.length ∧ badIn t.ins 0 = badIn (t.ins.drop i) i
    meas := fun i => t.ins.length - i
    slots := fun i => [(3, .int .i64 i)]
    heap := fun _ => [] }
  else if k = 11 then some {
    X := Nat
    inv := fun i => i ≤ t.ins.length ∧ ((t.ins.take i).map ptOf).Nodup
    meas := fun i => t.ins.length - i
    slots := fun i => [(5, .int .i64 i)]
    heap := fun _ => [] }
  else if k = 14 then (match nth ts 5 with
    | some (.int _ i) => some {
      X := Nat
      inv := fun j => (j : Int) ≤ i ∧ ∀ x : TIn, t.ins[i.toNat]? = some x → ptOf x ∉ (t.ins.take j).map ptOf
      meas := fun j => i.toNat - j
      slots := fun j => [(6, .int .i64 j)]
      heap := fun _ => [] }
    | _ => none)
  else some {
    X := Nat
    inv := fun n => n ≤ t.outs.length ∧ outsE t.outs = outsE (t.outs.drop n)
    meas := fun n => t.outs.length - n
    slots := fun n => [(7, .int .i64 n)]
    heap := fun _ => [] }
noncomputable def L99 : List (Nat × SpecT AA) := (73, tLent rcheckLS txRGet) :: L98
noncomputable def F99 : Eng AA := EF prog L99
theorem F99_eq : F99 = EF prog L99 := by
  unfold F99
  rfl
/-! ## The law -/
structure TxBulk (t : TxD) : Prop extends Small t, TxOk t
noncomputable def checksTxLS : LS AA where
  X := TxD
  pre := Small
  args := fun t => [.agg (txRSL t)]
  hin := fun _ => []
  res := fun _ => [.sb 0 true]
  hout := fun _ => []
end Go.Proofs.YtcglahfmnoghjaaGreatDoor

/-! A transaction given and checked: the walks hold. Conditions: none. -/
namespace Go.Proofs.YtcglahfmnoghjaaGreatDoor
open Go Go.Eng Go.Proofs.Tryz

def gcondVC : Prop := ∀ (x : List Br), (weight x).le (2000000 : Nat) → (∃ x_1, Nat.le x_1 x.length ∧ ((SV.val (A := AA) (Value.slice none (0 : Nat) (0 : Nat)) : SV AA) =
  SV.val (A := AA) (Value.slice none (0 : Nat) (0 : Nat)) ∧ (↑x_1 : Int) = (0 : Int)) ∧ ((x = x ∧ True) ∧ ((SV.val (A := AA) (Value.slice none (0 : Nat)
  (0 : Nat)) : SV AA) = SV.val (A := AA) (Value.slice none (0 : Nat) (0 : Nat)) ∧ True) ∧ True) ∧ List.take x_1 x = [] ∧ True) ∧ ∀ (x_1 : Nat), x_1.le
  x.length → (↑x.length : Int) ≤ (9223372036854775807 : Int) → (decide ((↑x_1 : Int) < (↑x.length : Int)) = true → (0 : Int) ≤ (↑x_1 : Int) ∧ (↑x_1 :
  Int) < (↑x.length : Int) ∧ ∀ (y : AA (85 : Nat)), x[(↑x_1 : Int).toNat]? = some y → (0 : Int) ≤ (↑x_1 : Int) ∧ (↑x_1 : Int) < (↑x.length : Int) ∧ ∀
  (y_1 : AA (85 : Nat)), x[(↑x_1 : Int).toNat]? = some y_1 → y_1.keys.length * (8 : Nat) ≤ (140737488355328 : Nat) ∧ y_1.keys.length ≤
  (1152921504606846976 : Nat) ∧ (y_1.keys = y_1.keys ∧ y.lock = y.lock ∧ y.after = y.after ∧ y.older = y.older ∧ True) ∧ ((List.take x_1 x).length +
  [Br.mk y_1.keys y.lock y.after y.older].length) * (72 : Nat) ≤ (140737488355328 : Nat) ∧ (List.take x_1 x).length + [Br.mk y_1.keys y.lock y.after
  y.older].length ≤ (1152921504606846976 : Nat) ∧ inI64 ((↑x_1 : Int) + (1 : Int)) ∧ ∃ y_2, Nat.le y_2 x.length ∧ x.length - y_2 < x.length - x_1 ∧ (True
  ∧ (↑y_2 : Int) = (↑x_1 : Int) + (1 : Int)) ∧ ((x = x ∧ True) ∧ ((SV.val (A := AA) (Value.slice none (0 : Nat) (0 : Nat)) : SV AA) = SV.val (A := AA)
  (Value.slice none (0 : Nat) (0 : Nat)) ∧ True) ∧ True) ∧ List.take y_2 x = List.take x_1 x ++ [Br.mk y_1.keys y.lock y.after y.older] ∧ True) ∧ (decide
  ((↑x_1 : Int) < (↑x.length : Int)) = false → (x = List.take x_1 x ∧ True) ∧ True ∧ True)
theorem gcond_eq : gcondVC = fnS F95 f37 (bodyOf f37) gcondLS giveAnn := by kernel_rfl
theorem gcond_vc : gcondVC := by
  intro bs hw
  have hw : bs.length + sumK bs ≤ 2000000 := hw
  refine ⟨⟨0, Nat.zero_le _, ⟨rfl, rfl⟩, ⟨⟨rfl, trivial⟩, ⟨rfl, trivial⟩, trivial⟩, rfl, trivial⟩, ?_⟩
  intro k hk hl
  have hk : k ≤ bs.length := hk
  refine ⟨fun h1 => ?_, fun h1 => ?_⟩
  · simp only [decide_eq_true_eq] at h1
    refine ⟨by omega, by omega, fun y hy => ⟨by omega, by omega, fun y' hy' => ?_⟩⟩
    have hyy : y = y' := by rw [hy] at hy'; exact Option.some.inj hy'
    subst hyy
    change Br at y
    have hy2 : bs[k]? = some y := by
      have h0 := hy
      rw [Int.toNat_natCast] at h0
      exact h0
    have hkl := len_weight hy2
    have htl : (bs.take k).length = k := by rw [List.length_take]; omega
    have hlen : ∀ z : Br, ((bs.take k).length + [z].length) = k + 1 := fun z => by rw [htl]; rfl
    have h8 : y.keys.length ≤ 2000000 := by omega
    have hk300 : k < 2000000 := by omega
    have hcat : bs.take (k + 1) = bs.take k ++ [show Br from y] := by
      rw [List.take_add_one, hy2]; rfl
    refine ⟨by omega, by omega, ⟨rfl, rfl, rfl, rfl, trivial⟩, ?_, ?_, by unfold inI64; omega, k + 1, Nat.succ_le_of_lt (by omega), by omega, ⟨trivial, by omega⟩, ⟨⟨rfl, trivial⟩, ⟨rfl, trivial⟩, trivial⟩, hcat, trivial⟩
    · exact Nat.le_trans (Nat.mul_le_mul_right 72 (Nat.le_of_eq (hlen _))) (by omega)
    · exact Nat.le_trans (Nat.le_of_eq (hlen _)) (by omega)
  · simp only [decide_eq_false_iff_not] at h1
    exact ⟨⟨(List.take_of_length_le (by omega)).symm, trivial⟩, trivial, trivial⟩
theorem gcond_ok : Fits F95 f37 (bodyOf f37) gcondLS giveAnn := by
  constructor
  rw [← gcond_eq]
  exact gcond_vc
theorem f64_has : Has prog 37 f37 (bodyOf f37) := ⟨by kernel_rfl, by kernel_rfl, by kernel_rfl⟩
theorem known96 : Known prog L96 := by
  unfold L96
  exact known95.lent mixed f64_has F95_eq gcond_ok (fun _ _ => Nat.le_refl _) (fun _ _ => rfl)
/-! ## Is one too long? -/
theorem weight_le : ∀ {l : List TOut} {o : TOut}, o ∈ l → weight o.cond ≤ sumW l
  | x :: l, o, h => by
    simp only [sumW]
    rcases List.mem_cons.1 h with e | h
    · subst e; omega
    · have := weight_le h; omega
theorem keys_le {bs : List Br} {b : Br} (h : b ∈ bs) : b.keys.length ≤ sumK bs := by
  obtain ⟨k, hk⟩ := List.getElem?_of_mem h
  exact len_weight hk
theorem Small.cond {t : TxD} (h : Small t) {o : TOut} {j : Nat} (ho : t.outs[j]? = some o) : o.cond.length + sumK o.cond ≤ 2000000 := by
  have := weight_le (List.mem_of_getElem? ho)
  have := h.w
  unfold weight at *
  omega
theorem tdiv16 {n : Nat} (h : n ≤ 2000000) : wr IntKind.i64 ((n : Int).tdiv 16) = (n : Int).tdiv 16 ∧ 0 ≤ (n : Int).tdiv 16 ∧ (n : Int).tdiv 16 ≤ 2000000 := by
  have h1 : (n : Int).tdiv 16 = (n : Int) / 16 := Int.tdiv_eq_ediv_of_nonneg (by omega)
  rw [h1]
  refine ⟨wr64 (by unfold inI64; omega), by omega, by omega⟩
def longTxVC : Prop := ∀ (x : TxD), Small x → (↑x.ins.length : Int) ≤ (9223372036854775807 : Int) → (↑x.outs.length : Int) ≤ (9223372036854775807 : Int) → inI64
  ((↑x.ins.length : Int) + (↑x.outs.length : Int)) ∧ (decide ((↑x.ins.length : Int) + (↑x.outs.length : Int) > (300 : Int)) = true → longB x = true ∧
  True ∧ True) ∧ (decide ((↑x.ins.length : Int) + (↑x.outs.length : Int) > (300 : Int)) = false → (∃ (x_1 : Nat × Int), LongI x x_1.fst x_1.snd ∧ ((↑x_1.fst : Int) =
  (0 : Int) ∧ x_1.snd = (↑x.ins.length : Int) + (↑x.outs.length : Int)) ∧ ((x.lock = x.lock ∧ x.ins = x.ins ∧ x.outs = x.outs ∧ True) ∧ True) ∧ True) ∧ ∀
  (x_1 : Nat × Int), LongI x x_1.fst x_1.snd → (↑x.ins.length : Int) ≤ (9223372036854775807 : Int) → (decide ((↑x_1.fst : Int) < (↑x.ins.length : Int)) =
  true → (0 : Int) ≤ (↑x_1.fst : Int) ∧ (↑x_1.fst : Int) < (↑x.ins.length : Int) ∧ ∀ (y : AA (80 : Nat)), x.ins[(↑x_1.fst : Int).toNat]? = some y →
  (↑y.secret.length : Int) ≤ (9223372036854775807 : Int) → (16 : Int) ≠ (0 : Int) ∧ inI64 (x_1.snd + wr IntKind.i64 ((↑y.secret.length : Int).tdiv (16 :
  Int))) ∧ inI64 ((↑x_1.fst : Int) + (1 : Int)) ∧ ∃ (y_1 : Nat × Int), LongI x y_1.fst y_1.snd ∧ x.ins.length - y_1.fst < x.ins.length - x_1.fst ∧ ((↑y_1.fst : Int) =
  (↑x_1.fst : Int) + (1 : Int) ∧ y_1.snd = x_1.snd + wr IntKind.i64 ((↑y.secret.length : Int).tdiv (16 : Int))) ∧ ((x.lock = x.lock ∧ x.ins = x.ins ∧
  x.outs = x.outs ∧ True) ∧ True) ∧ True) ∧ (decide ((↑x_1.fst : Int) < (↑x.ins.length : Int)) = false → (∃ (x_2 : Nat × Int), LongJ x x_2.fst x_2.snd ∧ ((↑x_2.fst :
  Int) = (0 : Int) ∧ x_2.snd = x_1.snd) ∧ ((x.lock = x.lock ∧ x.ins = x.ins ∧ x.outs = x.outs ∧ True) ∧ True) ∧ True) ∧ ∀ (x_2 : Nat × Int), LongJ x
  x_2.fst x_2.snd → (↑x.outs.length : Int) ≤ (9223372036854775807 : Int) → (decide ((↑x_2.fst : Int) < (↑x.outs.length : Int)) = true → (0 : Int) ≤
  (↑x_2.fst : Int) ∧ (↑x_2.fst : Int) < (↑x.outs.length : Int) ∧ ∀ (y : AA (82 : Nat)), x.outs[(↑x_2.fst : Int).toNat]? = some y → (↑y.cond.length : Int)
  ≤ (9223372036854775807 : Int) → inI64 (x_2.snd + (↑y.cond.length : Int)) ∧ (∃ (x_3 : Nat × Int), (∀ (o : TOut), x.outs[(↑x_2.fst : Int).toNat]? = some o → LongK o
  (x_2.snd + (↑y.cond.length : Int)) x_3.fst x_3.snd) ∧ ((↑x_3.fst : Int) = (0 : Int) ∧ x_3.snd = x_2.snd + (↑y.cond.length : Int)) ∧ ((x.lock = x.lock ∧
  x.ins = x.ins ∧ x.outs = x.outs ∧ True) ∧ True) ∧ True) ∧ ∀ (x_3 : Nat × Int), (∀ (o : TOut), x.outs[(↑x_2.fst : Int).toNat]? = some o → LongK o
  (x_2.snd + (↑y.cond.length : Int)) x_3.fst x_3.snd) → (0 : Int) ≤ (↑x_2.fst : Int) ∧ (↑x_2.fst : Int) < (↑x.outs.length : Int) ∧ ∀ (y_1 : AA (82 : Nat)), x.outs[(↑x_2.fst : Int).toNat]? = some y_1 → (↑y_1.cond.length : Int) ≤ (9223372036854775807 : Int) → (decide ((↑x_3.fst : Int) <
  (↑y_1.cond.length : Int)) = true → (decide (x_3.snd < (400 : Int)) = true → (0 : Int) ≤ (↑x_2.fst : Int) ∧ (↑x_2.fst : Int) < (↑x.outs.length : Int) ∧
  ∀ (y_2 : AA (82 : Nat)), x.outs[(↑x_2.fst : Int).toNat]? = some y_2 → (0 : Int) ≤ (↑x_3.fst : Int) ∧ (↑x_3.fst : Int) < (↑y_2.cond.length : Int) ∧ ∀
  (y_3 : AA (85 : Nat)), y_2.cond[(↑x_3.fst : Int).toNat]? = some y_3 → (↑y_3.keys.length : Int) ≤ (9223372036854775807 : Int) → inI64 (x_3.snd +
  (↑y_3.keys.length : Int)) ∧ inI64 ((↑x_3.fst : Int) + (1 : Int)) ∧ ∃ (y_4 : Nat × Int), (∀ (o : TOut), x.outs[(↑x_2.fst : Int).toNat]? = some o → LongK o (x_2.snd +
  (↑y.cond.length : Int)) y_4.fst y_4.snd) ∧ (2000001 : Nat) - y_4.fst < (2000001 : Nat) - x_3.fst ∧ ((↑y_4.fst : Int) = (↑x_3.fst : Int) + (1 : Int) ∧
  y_4.snd = x_3.snd + (↑y_3.keys.length : Int)) ∧ ((x.lock = x.lock ∧ x.ins = x.ins ∧ x.outs = x.outs ∧ True) ∧ True) ∧ True) ∧ (decide (x_3.snd < (400 :
  Int)) = false → inI64 ((↑x_2.fst : Int) + (1 : Int)) ∧ ∃ (y : Nat × Int), LongJ x y.fst y.snd ∧ x.outs.length - y.fst < x.outs.length - x_2.fst ∧ ((↑y.fst : Int) =
  (↑x_2.fst : Int) + (1 : Int) ∧ y.snd = x_3.snd) ∧ ((x.lock = x.lock ∧ x.ins = x.ins ∧ x.outs = x.outs ∧ True) ∧ True) ∧ True)) ∧ (decide ((↑x_3.fst :
  Int) < (↑y_1.cond.length : Int)) = false → inI64 ((↑x_2.fst : Int) + (1 : Int)) ∧ ∃ (y : Nat × Int), LongJ x y.fst y.snd ∧ x.outs.length - y.fst < x.outs.length -
  x_2.fst ∧ ((↑y.fst : Int) = (↑x_2.fst : Int) + (1 : Int) ∧ y.snd = x_3.snd) ∧ ((x.lock = x.lock ∧ x.ins = x.ins ∧ x.outs = x.outs ∧ True) ∧ True) ∧
  True)) ∧ (decide ((↑x_2.fst : Int) < (↑x.outs.length : Int)) = false → longB x = decide (x_2.snd > (400 : Int)) ∧ True ∧ True)))
theorem longTx_eq : longTxVC = fnS F96 f8 (bodyOf f8) longTxLS longTxAnn := by kernel_rfl
theorem longTx_vc : longTxVC := by
  intro t hs
  have hn := hs.n
  have hm := hs.m
  simp only [and_true, decide_eq_true_eq, decide_eq_false_iff_not, Int.toNat_natCast]
  refine fun _ _ => ⟨by unfold inI64; omega, fun h => ?_, fun h => ⟨⟨(0, _), ⟨Nat.zero_le _, by omega, by omega, by simp only; omega, rfl⟩, rfl, rfl⟩, ?_⟩⟩
  · unfold longB
    rw [if_pos h]
  rintro ⟨i, n⟩ hI _
  simp only at hI ⊢
  refine ⟨fun hlt => ⟨by omega, hlt, fun y hy _ => ?_⟩, fun hge => ⟨⟨(0, _), ?_, rfl, rfl⟩, ?_⟩⟩
  · have hd := dropAt (α := TIn) (y := y) hy
    obtain ⟨h1, h2, h3⟩ := tdiv16 (hs.s y (List.mem_of_getElem? hy))
    obtain ⟨i1, i2, i3, i4, i5⟩ := hI
    rw [h1]
    rw [hd] at i5
    simp only [secN] at i5
    exact ⟨by decide, by unfold inI64; omega, by unfold inI64; omega, (i + 1, _), ⟨by simp only; omega, i2, by simp only; omega, by simp only; omega, by simp only; omega⟩, by simp only; omega, by simp only; omega, rfl⟩
  · obtain ⟨i1, i2, i3, i4, i5⟩ := hI
    rw [List.drop_of_length_le (by omega)] at i5
    simp only [secN] at i5
    exact ⟨Nat.zero_le _, i2, i3, by simp only; omega, by rw [i5]; simp⟩
  rintro ⟨j, n2⟩ hJ _
  simp only at hJ ⊢
  obtain ⟨j1, j2, j3, j4, j5⟩ := hJ
  refine ⟨fun hlt => ⟨by omega, hlt, fun y hy _ => ?_⟩, fun hge => ?_⟩
  · change TOut at y
    have hc := hs.cond hy
    have hd := dropAt (α := TOut) (y := y) hy
    rw [hd] at j5
    simp only [outCut] at j5
    refine ⟨by unfold inI64; omega, ⟨(0, _), fun o ho => ?_, rfl, rfl⟩, ?_⟩
    · have e : y = o := by rw [hy] at ho; exact Option.some.inj ho
      subst e
      exact ⟨Nat.zero_le _, by simp only; omega, .inr (Int.le_refl _), rfl⟩
    rintro ⟨k, n3⟩ hK
    obtain ⟨k1, k2, k3, k4⟩ := hK y hy
    simp only at k1 k2 k3 k4 ⊢
    have fin : n3 = keyCut y.cond (n2 + y.cond.length) → inI64 ((j : Int) + 1) ∧ ∃ z : Nat × Int, LongJ t z.1 z.2 ∧ t.outs.length - z.1 < t.outs.length - j ∧ (z.1 : Int) = (j : Int) + 1 ∧ z.2 = n3 := fun e =>
      ⟨by unfold inI64; omega, (j + 1, n3), ⟨by simp only; omega, j2, k2, by simp only; omega, by rw [j5, e]⟩, by simp only; omega, by simp only; omega, rfl⟩
    refine ⟨by omega, hlt, fun y1 hy1 _ => ?_⟩
    have e : y = y1 := by rw [hy] at hy1; exact Option.some.inj hy1
    subst e
    refine ⟨fun hk => ⟨fun h4 => ⟨by omega, hlt, fun y2 hy2 => ?_⟩, fun h4 => ?_⟩, fun hk => ?_⟩
    · have e : y = y2 := by rw [hy] at hy2; exact Option.some.inj hy2
      subst e
      refine ⟨by omega, hk, fun b hb _ => ?_⟩
      change Br at b
      have hb2 := keys_le (List.mem_of_getElem? hb)
      have hd2 := dropAt (α := Br) (y := b) hb
      refine ⟨by unfold inI64; omega, by unfold inI64; omega, (k + 1, _), fun o ho => ?_, by simp only; omega, by simp only; omega, rfl⟩
      have e : y = o := by rw [hy] at ho; exact Option.some.inj ho
      subst e
      refine ⟨by simp only; omega, by simp only; omega, .inl (by simp only; omega), ?_⟩
      rw [k4, hd2]
      simp only [keyCut]
      rw [if_pos h4]
    · refine fin ?_
      have hk' : k < y.cond.length := by omega
      rw [k4, List.drop_eq_getElem_cons hk']
      simp only [keyCut]
      rw [if_neg h4]
    · refine fin ?_
      rw [k4, List.drop_of_length_le (by omega)]
      rfl
  · unfold longB
    rw [if_neg h, j5, List.drop_of_length_le (by omega)]
    rfl
theorem longTx_ok : Fits F96 f8 (bodyOf f8) longTxLS longTxAnn := by
  constructor
  rw [← longTx_eq]
  exact longTx_vc
theorem f29_has : Has prog 8 f8 (bodyOf f8) := ⟨by kernel_rfl, by kernel_rfl, by kernel_rfl⟩
theorem known97 : Known prog L97 := by
  unfold L97
  exact known96.lent mixed f29_has F96_eq longTx_ok (fun _ _ => Nat.le_refl _) (fun _ _ => rfl)
end Go.Proofs.YtcglahfmnoghjaaGreatDoor

/-! A transaction given; the document's check; TxChecks: the walks hold. Conditions: none. -/
namespace Go.Proofs.YtcglahfmnoghjaaGreatDoor
open Go Go.Eng Go.Proofs.Tryz

def giveTxVC : Prop := ∀ (x : TxD), Small x → (∃ x_1, Nat.le x_1 x.ins.length ∧ (↑x_1 : Int) = (0 : Int) ∧ ((x.lock = x.lock ∧ x.ins = x.ins ∧ x.outs = x.outs ∧ True) ∧ ((0 :
  Int) = (0 : Int) ∧ (SV.val (A := AA) (Value.slice none (0 : Nat) (0 : Nat)) : SV AA) = SV.val (A := AA) (Value.slice none (0 : Nat) (0 : Nat)) ∧
  (SV.val (A := AA) (Value.slice none (0 : Nat) (0 : Nat)) : SV AA) = SV.val (A := AA) (Value.slice none (0 : Nat) (0 : Nat)) ∧ True) ∧ (x.lock = x.lock
  ∧ (SV.val (A := AA) (Value.slice none (0 : Nat) (0 : Nat)) : SV AA) = SV.val (A := AA) (Value.slice none (0 : Nat) (0 : Nat)) ∧ (SV.val (A := AA)
  (Value.slice none (0 : Nat) (0 : Nat)) : SV AA) = SV.val (A := AA) (Value.slice none (0 : Nat) (0 : Nat)) ∧ True) ∧ True) ∧ List.take x_1 x.ins = [] ∧
  True) ∧ ∀ (x_1 : Nat), x_1.le x.ins.length → (↑x.ins.length : Int) ≤ (9223372036854775807 : Int) → (decide ((↑x_1 : Int) < (↑x.ins.length : Int)) =
  true → (0 : Int) ≤ (↑x_1 : Int) ∧ (↑x_1 : Int) < (↑x.ins.length : Int) ∧ ∀ (y : AA (80 : Nat)), x.ins[(↑x_1 : Int).toNat]? = some y → (0 : Int) ≤
  (↑x_1 : Int) ∧ (↑x_1 : Int) < (↑x.ins.length : Int) ∧ ∀ (y_1 : AA (80 : Nat)), x.ins[(↑x_1 : Int).toNat]? = some y_1 → (0 : Int) ≤ (↑x_1 : Int) ∧
  (↑x_1 : Int) < (↑x.ins.length : Int) ∧ ∀ (y_2 : AA (80 : Nat)), x.ins[(↑x_1 : Int).toNat]? = some y_2 → y_2.secret.length * (1 : Nat) ≤
  (140737488355328 : Nat) ∧ y_2.secret.length ≤ (1152921504606846976 : Nat) ∧ (y.tx = y.tx ∧ y.n = y.n ∧ y_1.branch = y_1.branch ∧ y_2.secret =
  y_2.secret ∧ True) ∧ ((List.take x_1 x.ins).length + [TIn.mk y.tx y.n y_1.branch y_2.secret].length) * (72 : Nat) ≤ (140737488355328 : Nat) ∧
  (List.take x_1 x.ins).length + [TIn.mk y.tx y.n y_1.branch y_2.secret].length ≤ (1152921504606846976 : Nat) ∧ inI64 ((↑x_1 : Int) + (1 : Int)) ∧ ∃ y_3,
  Nat.le y_3 x.ins.length ∧ x.ins.length - y_3 < x.ins.length - x_1 ∧ (↑y_3 : Int) = (↑x_1 : Int) + (1 : Int) ∧ ((x.lock = x.lock ∧ x.ins = x.ins ∧
  x.outs = x.outs ∧ True) ∧ ((0 : Int) = (0 : Int) ∧ (SV.val (A := AA) (Value.slice none (0 : Nat) (0 : Nat)) : SV AA) = SV.val (A := AA) (Value.slice
  none (0 : Nat) (0 : Nat)) ∧ (SV.val (A := AA) (Value.slice none (0 : Nat) (0 : Nat)) : SV AA) = SV.val (A := AA) (Value.slice none (0 : Nat) (0 : Nat))
  ∧ True) ∧ (x.lock = x.lock ∧ True ∧ (SV.val (A := AA) (Value.slice none (0 : Nat) (0 : Nat)) : SV AA) = SV.val (A := AA) (Value.slice none (0 : Nat) (0
  : Nat)) ∧ True) ∧ True) ∧ List.take y_3 x.ins = List.take x_1 x.ins ++ [TIn.mk y.tx y.n y_1.branch y_2.secret] ∧ True) ∧ (decide ((↑x_1 : Int) <
  (↑x.ins.length : Int)) = false → (∃ x_2, Nat.le x_2 x.outs.length ∧ (↑x_2 : Int) = (0 : Int) ∧ ((x.lock = x.lock ∧ x.ins = x.ins ∧ x.outs = x.outs ∧
  True) ∧ ((0 : Int) = (0 : Int) ∧ (SV.val (A := AA) (Value.slice none (0 : Nat) (0 : Nat)) : SV AA) = SV.val (A := AA) (Value.slice none (0 : Nat) (0 :
  Nat)) ∧ (SV.val (A := AA) (Value.slice none (0 : Nat) (0 : Nat)) : SV AA) = SV.val (A := AA) (Value.slice none (0 : Nat) (0 : Nat)) ∧ True) ∧ (x.lock =
  x.lock ∧ True ∧ (SV.val (A := AA) (Value.slice none (0 : Nat) (0 : Nat)) : SV AA) = SV.val (A := AA) (Value.slice none (0 : Nat) (0 : Nat)) ∧ True) ∧
  List.take x_1 x.ins = List.take x_1 x.ins ∧ True) ∧ List.take x_2 x.outs = [] ∧ True) ∧ ∀ (x_2 : Nat), x_2.le x.outs.length → (↑x.outs.length : Int) ≤
  (9223372036854775807 : Int) → (decide ((↑x_2 : Int) < (↑x.outs.length : Int)) = true → (0 : Int) ≤ (↑x_2 : Int) ∧ (↑x_2 : Int) < (↑x.outs.length : Int)
  ∧ ∀ (y : AA (82 : Nat)), x.outs[(↑x_2 : Int).toNat]? = some y → (0 : Int) ≤ (↑x_2 : Int) ∧ (↑x_2 : Int) < (↑x.outs.length : Int) ∧ ∀ (y_1 : AA (82 : Nat)), x.outs[(↑x_2 : Int).toNat]? = some y_1 → (y_1.cond = y_1.cond ∧ True) ∧ True ∧ (weight y_1.cond).le (2000000 : Nat) ∧ (y.amount = y.amount ∧
  y_1.cond = y_1.cond ∧ True) ∧ ((List.take x_2 x.outs).length + [TOut.mk y.amount y_1.cond].length) * (32 : Nat) ≤ (140737488355328 : Nat) ∧ (List.take
  x_2 x.outs).length + [TOut.mk y.amount y_1.cond].length ≤ (1152921504606846976 : Nat) ∧ inI64 ((↑x_2 : Int) + (1 : Int)) ∧ ∃ y_2, Nat.le y_2
  x.outs.length ∧ x.outs.length - y_2 < x.outs.length - x_2 ∧ (↑y_2 : Int) = (↑x_2 : Int) + (1 : Int) ∧ ((x.lock = x.lock ∧ x.ins = x.ins ∧ x.outs =
  x.outs ∧ True) ∧ ((0 : Int) = (0 : Int) ∧ SV.val (A := AA) (Value.slice none (0 : Nat) (0 : Nat)) = SV.val (A := AA) (Value.slice none (0 : Nat) (0 :
  Nat)) ∧ SV.val (A := AA) (Value.slice none (0 : Nat) (0 : Nat)) = SV.val (A := AA) (Value.slice none (0 : Nat) (0 : Nat)) ∧ True) ∧ (x.lock = x.lock ∧
  True ∧ True ∧ True) ∧ List.take x_1 x.ins = List.take x_1 x.ins ∧ True) ∧ List.take y_2 x.outs = List.take x_2 x.outs ++ [TOut.mk y.amount y_1.cond] ∧
  True) ∧ (decide ((↑x_2 : Int) < (↑x.outs.length : Int)) = false → (x.lock = x.lock ∧ True ∧ True ∧ True) ∧ True ∧ x.ins = List.take x_1 x.ins ∧ x.outs
  = List.take x_2 x.outs ∧ True))
theorem giveTx_eq : giveTxVC = fnS F97 f10 (bodyOf f10) giveTxLS giveTxAnn := by kernel_rfl
theorem giveTx_vc : giveTxVC := by
  intro t hs
  have hn := hs.n
  have hm := hs.m
  simp only [true_and, and_true, decide_eq_true_eq, decide_eq_false_iff_not, Int.toNat_natCast, and_self]
  refine ⟨⟨0, Nat.zero_le _, rfl, rfl⟩, fun i hi _ => ⟨fun hlt => ⟨by omega, hlt, fun y hy => ⟨by omega, hlt, fun y1 hy1 => ⟨by omega, hlt, fun y2 hy2 => ?_⟩⟩⟩, fun hge => ⟨⟨0, Nat.zero_le _, rfl, rfl⟩, fun j hj _ => ⟨fun hlt => ⟨by omega, hlt, fun y hy => ⟨by omega, hlt, fun y1 hy1 => ?_⟩⟩, fun hge2 => ?_⟩⟩⟩⟩
  · change TIn at y
    change TIn at y1
    change TIn at y2
    have e : y = y1 := by rw [hy] at hy1; exact Option.some.inj hy1
    subst e
    have e : y = y2 := by rw [hy] at hy2; exact Option.some.inj hy2
    subst e
    have hs1 := hs.s y (List.mem_of_getElem? hy)
    have hl : (t.ins.take i).length = i := by rw [List.length_take]; omega
    have hcat : t.ins.take (i + 1) = t.ins.take i ++ [show TIn from y] := by
      have hy' : t.ins[i]? = some y := hy
      rw [List.take_add_one, hy']; rfl
    have hi' : i < t.ins.length := by omega
    have h1 : (t.ins.take i).length + 1 ≤ 2000000 := by omega
    exact ⟨by omega, by omega, Nat.le_trans (Nat.mul_le_mul_right 72 h1) (by decide), Nat.le_trans h1 (by decide), by unfold inI64; omega, i + 1, hi', by omega, by omega, hcat⟩
  · change TOut at y
    change TOut at y1
    have e : y = y1 := by rw [hy] at hy1; exact Option.some.inj hy1
    subst e
    have hc := hs.cond hy
    have hl : (t.outs.take j).length = j := by rw [List.length_take]; omega
    have hcat : t.outs.take (j + 1) = t.outs.take j ++ [show TOut from y] := by
      have hy' : t.outs[j]? = some y := hy
      rw [List.take_add_one, hy']; rfl
    have hj' : j < t.outs.length := by omega
    have h1 : (t.outs.take j).length + 1 ≤ 2000000 := by omega
    exact ⟨hc, Nat.le_trans (Nat.mul_le_mul_right 32 h1) (by decide), Nat.le_trans h1 (by decide), by unfold inI64; omega, j + 1, hj', by omega, by omega, hcat⟩
  · exact ⟨(List.take_of_length_le (by omega)).symm, (List.take_of_length_le (by omega)).symm⟩
theorem giveTx_ok : Fits F97 f10 (bodyOf f10) giveTxLS giveTxAnn := by
  constructor
  rw [← giveTx_eq]
  exact giveTx_vc
theorem f32_has : Has prog 10 f10 (bodyOf f10) := ⟨by kernel_rfl, by kernel_rfl, by kernel_rfl⟩
theorem known98 : Known prog L98 := by
  unfold L98
  exact known97.lent mixed f32_has F97_eq giveTx_ok (fun _ _ => Nat.zero_le _) (fun _ _ => rfl)
/-! ## The document's check -/
def Odd4 (t : TxD) : Prop := t.lock < 0 ∨ t.lock > 1099511627776 ∨ someB t.ins.length = false ∨ someB t.outs.length = false ∨ badIn t.ins 0 ≥ 0
theorem checkT_4 {t : TxD} (h : Odd4 t) : checkT t = 4 := by
  unfold checkT
  exact if_pos h
theorem checkT_9 {t : TxD} (h : ¬ Odd4 t) (h2 : ¬ (t.ins.map ptOf).Nodup) : checkT t = 9 := by
  unfold checkT
  exact (if_neg h).trans (if_pos h2)
theorem checkT_o {t : TxD} (h : ¬ Odd4 t) (h2 : (t.ins.map ptOf).Nodup) : checkT t = if outsE t.outs ≠ 0 then outsE t.outs else (totG t.outs 0).2 := by
  unfold checkT
  refine (if_neg h).trans ((if_neg (fun h3 => h3 h2)).trans ?_)
  split <;> rfl
theorem some_out {n : Int} (h : n < 1 ∨ n > 64) : someB n = false := by
  unfold someB
  simp only [Bool.and_eq_false_imp, decide_eq_true_eq, decide_eq_false_iff_not]
  omega
theorem some_in {n : Int} (h : ¬ n < 1) (h2 : ¬ n > 64) : someB n = true := by
  unfold someB
  simp only [Bool.and_eq_true, decide_eq_true_eq]
  omega
theorem inOk_iff {x : TIn} : inOk x = true ↔ 0 ≤ x.n ∧ x.n < 64 ∧ 0 ≤ x.branch ∧ x.branch < 8 ∧ (x.secret.length : Int) ≤ 64 := by
  unfold inOk
  simp only [Bool.and_eq_true, decide_eq_true_eq]
def rcheckVC : Prop := ∀ (x : TxD), Lens x → (decide (x.lock < (0 : Int)) = true → checkT x = (4 : Int) ∧ True ∧ True) ∧ (decide (x.lock < (0 : Int)) = false → (decide
  (x.lock > (1099511627776 : Int)) = true → checkT x = (4 : Int) ∧ True ∧ True) ∧ (decide (x.lock > (1099511627776 : Int)) = false → (↑x.ins.length :
  Int) ≤ (9223372036854775807 : Int) → (decide ((↑x.ins.length : Int) < (1 : Int)) = true → checkT x = (4 : Int) ∧ True ∧ True) ∧ (decide ((↑x.ins.length
  : Int) < (1 : Int)) = false → (↑x.ins.length : Int) ≤ (9223372036854775807 : Int) → (decide ((↑x.ins.length : Int) > (64 : Int)) = true → checkT x = (4
  : Int) ∧ True ∧ True) ∧ (decide ((↑x.ins.length : Int) > (64 : Int)) = false → (↑x.outs.length : Int) ≤ (9223372036854775807 : Int) → (decide
  ((↑x.outs.length : Int) < (1 : Int)) = true → checkT x = (4 : Int) ∧ True ∧ True) ∧ (decide ((↑x.outs.length : Int) < (1 : Int)) = false →
  (↑x.outs.length : Int) ≤ (9223372036854775807 : Int) → (decide ((↑x.outs.length : Int) > (64 : Int)) = true → checkT x = (4 : Int) ∧ True ∧ True) ∧
  (decide ((↑x.outs.length : Int) > (64 : Int)) = false → (∃ (x_1 : Nat), (x_1 ≤ x.ins.length ∧ badIn x.ins (0 : Nat) = badIn (List.drop x_1 x.ins) x_1) ∧ (↑x_1
  : Int) = (0 : Int) ∧ ((x.lock = x.lock ∧ x.ins = x.ins ∧ x.outs = x.outs ∧ True) ∧ True) ∧ True) ∧ ∀ (x_1 : Nat), x_1 ≤ x.ins.length ∧ badIn x.ins (0 :
  Nat) = badIn (List.drop x_1 x.ins) x_1 → (↑x.ins.length : Int) ≤ (9223372036854775807 : Int) → (decide ((↑x_1 : Int) < (↑x.ins.length : Int)) = true →
  (0 : Int) ≤ (↑x_1 : Int) ∧ (↑x_1 : Int) < (↑x.ins.length : Int) ∧ ∀ (y : AA (80 : Nat)), x.ins[(↑x_1 : Int).toNat]? = some y → (decide (y.n < (0 :
  Int)) = true → checkT x = (4 : Int) ∧ True ∧ True) ∧ (decide (y.n < (0 : Int)) = false → (decide (y.n > (63 : Int)) = true → checkT x = (4 : Int) ∧
  True ∧ True) ∧ (decide (y.n > (63 : Int)) = false → (decide (y.branch < (0 : Int)) = true → checkT x = (4 : Int) ∧ True ∧ True) ∧ (decide (y.branch <
  (0 : Int)) = false → (decide (y.branch > (7 : Int)) = true → checkT x = (4 : Int) ∧ True ∧ True) ∧ (decide (y.branch > (7 : Int)) = false →
  (↑y.secret.length : Int) ≤ (9223372036854775807 : Int) → (decide ((↑y.secret.length : Int) > (64 : Int)) = true → checkT x = (4 : Int) ∧ True ∧ True) ∧
  (decide ((↑y.secret.length : Int) > (64 : Int)) = false → inI64 ((↑x_1 : Int) + (1 : Int)) ∧ ∃ (y : Nat), (y ≤ x.ins.length ∧ badIn x.ins (0 : Nat) = badIn
  (List.drop y x.ins) y) ∧ x.ins.length - y < x.ins.length - x_1 ∧ (↑y : Int) = (↑x_1 : Int) + (1 : Int) ∧ ((x.lock = x.lock ∧ x.ins = x.ins ∧ x.outs =
  x.outs ∧ True) ∧ True) ∧ True)))))) ∧ (decide ((↑x_1 : Int) < (↑x.ins.length : Int)) = false → (∃ (x_2 : Nat), (x_2 ≤ x.ins.length ∧ (List.map ptOf (List.take
  x_2 x.ins)).Nodup) ∧ (↑x_2 : Int) = (0 : Int) ∧ ((x.lock = x.lock ∧ x.ins = x.ins ∧ x.outs = x.outs ∧ True) ∧ True) ∧ True) ∧ ∀ (x_2 : Nat), x_2 ≤
  x.ins.length ∧ (List.map ptOf (List.take x_2 x.ins)).Nodup → (↑x.ins.length : Int) ≤ (9223372036854775807 : Int) → (decide ((↑x_2 : Int) <
  (↑x.ins.length : Int)) = true → (∃ (x_3 : Nat), ((↑x_3 : Int) ≤ (↑x_2 : Int) ∧ ∀ (x_4 : TIn), x.ins[(↑x_2 : Int).toNat]? = some x_4 → ¬ptOf x_4 ∈ List.map ptOf
  (List.take x_3 x.ins)) ∧ (↑x_3 : Int) = (0 : Int) ∧ ((x.lock = x.lock ∧ x.ins = x.ins ∧ x.outs = x.outs ∧ True) ∧ True) ∧ True) ∧ ∀ (x_3 : Nat), ((↑x_3
  : Int) ≤ (↑x_2 : Int) ∧ ∀ (x_4 : TIn), x.ins[(↑x_2 : Int).toNat]? = some x_4 → ¬ptOf x_4 ∈ List.map ptOf (List.take x_3 x.ins)) → (decide ((↑x_3 : Int)
  < (↑x_2 : Int)) = true → (0 : Int) ≤ (↑x_2 : Int) ∧ (↑x_2 : Int) < (↑x.ins.length : Int) ∧ ∀ (y : AA (80 : Nat)), x.ins[(↑x_2 : Int).toNat]? = some y
  → (0 : Int) ≤ (↑x_3 : Int) ∧ (↑x_3 : Int) < (↑x.ins.length : Int) ∧ ∀ (y_1 : AA (80 : Nat)), x.ins[(↑x_3 : Int).toNat]? = some y_1 → ((y.tx == y_1.tx
  && (y.n == y_1.n && true)) = true → checkT x = (9 : Int) ∧ True ∧ True) ∧ ((y.tx == y_1.tx && (y.n == y_1.n && true)) = false → inI64 ((↑x_3 : Int) +
  (1 : Int)) ∧ ∃ (y : Nat), ((↑y : Int) ≤ (↑x_2 : Int) ∧ ∀ (x_4 : TIn), x.ins[(↑x_2 : Int).toNat]? = some x_4 → ¬ptOf x_4 ∈ List.map ptOf (List.take y x.ins)) ∧
  (↑x_2 : Int).toNat - y < (↑x_2 : Int).toNat - x_3 ∧ (↑y : Int) = (↑x_3 : Int) + (1 : Int) ∧ ((x.lock = x.lock ∧ x.ins = x.ins ∧ x.outs = x.outs ∧ True)
  ∧ True) ∧ True)) ∧ (decide ((↑x_3 : Int) < (↑x_2 : Int)) = false → inI64 ((↑x_2 : Int) + (1 : Int)) ∧ ∃ (y : Nat), (y ≤ x.ins.length ∧ (List.map ptOf
  (List.take y x.ins)).Nodup) ∧ x.ins.length - y < x.ins.length - x_2 ∧ (↑y : Int) = (↑x_2 : Int) + (1 : Int) ∧ ((x.lock = x.lock ∧ x.ins = x.ins ∧
  x.outs = x.outs ∧ True) ∧ True) ∧ True)) ∧ (decide ((↑x_2 : Int) < (↑x.ins.length : Int)) = false → (∃ (x_3 : Nat), (x_3 ≤ x.outs.length ∧ outsE x.outs = outsE
  (List.drop x_3 x.outs)) ∧ (↑x_3 : Int) = (0 : Int) ∧ ((x.lock = x.lock ∧ x.ins = x.ins ∧ x.outs = x.outs ∧ True) ∧ True) ∧ True) ∧ ∀ (x_3 : Nat), x_3 ≤
  x.outs.length ∧ outsE x.outs = outsE (List.drop x_3 x.outs) → (↑x.outs.length : Int) ≤ (9223372036854775807 : Int) → (decide ((↑x_3 : Int) <
  (↑x.outs.length : Int)) = true → (0 : Int) ≤ (↑x_3 : Int) ∧ (↑x_3 : Int) < (↑x.outs.length : Int) ∧ ∀ (y : AA (82 : Nat)), x.outs[(↑x_3 : Int).toNat]?
  = some y → (decide (y.amount < (10 : Int)) = true → checkT x = (27 : Int) ∧ True ∧ True) ∧ (decide (y.amount < (10 : Int)) = false → (0 : Int) ≤ (↑x_3
  : Int) ∧ (↑x_3 : Int) < (↑x.outs.length : Int) ∧ ∀ (y : AA (82 : Nat)), x.outs[(↑x_3 : Int).toNat]? = some y → (decide (y.amount > (1125899906842624 :
  Int)) = true → checkT x = (5 : Int) ∧ True ∧ True) ∧ (decide (y.amount > (1125899906842624 : Int)) = false → (0 : Int) ≤ (↑x_3 : Int) ∧ (↑x_3 : Int) <
  (↑x.outs.length : Int) ∧ ∀ (y : AA (82 : Nat)), x.outs[(↑x_3 : Int).toNat]? = some y → y.cond.length.le (9223372036854775807 : Nat) ∧ (((bif fineB
  y.cond then (0 : Int) else (1 : Int)) != (0 : Int)) = true → (checkT x = bif fineB y.cond then (0 : Int) else (1 : Int)) ∧ True ∧ True) ∧ (((bif fineB
  y.cond then (0 : Int) else (1 : Int)) != (0 : Int)) = false → inI64 ((↑x_3 : Int) + (1 : Int)) ∧ ∃ (y : Nat), (y ≤ x.outs.length ∧ outsE x.outs = outsE
  (List.drop y x.outs)) ∧ x.outs.length - y < x.outs.length - x_3 ∧ (↑y : Int) = (↑x_3 : Int) + (1 : Int) ∧ ((x.lock = x.lock ∧ x.ins = x.ins ∧ x.outs =
  x.outs ∧ True) ∧ True) ∧ True)))) ∧ (decide ((↑x_3 : Int) < (↑x.outs.length : Int)) = false → (x.lock = x.lock ∧ x.ins = x.ins ∧ x.outs = x.outs ∧
  True) ∧ True ∧ True ∧ checkT x = (totG x.outs (0 : Int)).snd ∧ True ∧ True)))))))))
theorem rcheck_eq : rcheckVC = fnS F98 f73 (bodyOf f73) rcheckLS rcheckAnn := by kernel_rfl
theorem rcheck_vc : rcheckVC := by
  intro t hs
  have hn := hs.n
  have hm := hs.m
  simp only [true_and, and_true, decide_eq_true_eq, decide_eq_false_iff_not, Int.toNat_natCast]
  refine ⟨fun h => checkT_4 (.inl h), fun a1 => ⟨fun h => checkT_4 (.inr (.inl h)), fun a2 _ => ⟨fun h => checkT_4 (.inr (.inr (.inl (some_out (.inl h))))), fun a3 _ => ⟨fun h => checkT_4 (.inr (.inr (.inl (some_out (.inr h))))),
    fun a4 _ => ⟨fun h => checkT_4 (.inr (.inr (.inr (.inl (some_out (.inl h)))))), fun a5 _ => ⟨fun h => checkT_4 (.inr (.inr (.inr (.inl (some_out (.inr h)))))), fun a6 => ?_⟩⟩⟩⟩⟩⟩
  refine ⟨⟨0, ⟨Nat.zero_le _, rfl⟩, rfl⟩, fun i hi _ => ⟨fun hlt => ⟨by omega, hlt, fun y hy => ?_⟩, fun hge => ?_⟩⟩
  · change TIn at y
    have hd := dropAt (α := TIn) (y := y) hy
    have hb := hi.2
    rw [hd] at hb
    simp only [badIn] at hb
    have bad : ¬ inOk y = true → checkT t = 4 := fun h => by
      rw [if_neg h] at hb
      exact checkT_4 (.inr (.inr (.inr (.inr (by rw [hb]; omega)))))
    refine ⟨fun h => bad (by rw [inOk_iff]; omega), fun b1 => ⟨fun h => bad (by rw [inOk_iff]; omega), fun b2 => ⟨fun h => bad (by rw [inOk_iff]; omega), fun b3 => ⟨fun h => bad (by rw [inOk_iff]; omega), fun b4 _ => ⟨fun h => bad (by rw [inOk_iff]; omega), fun b5 =>
      ⟨by unfold inI64; omega, i + 1, ⟨by omega, ?_⟩, by omega, by omega⟩⟩⟩⟩⟩⟩
    rw [hb, if_pos (by rw [inOk_iff]; omega)]
  have hb : badIn t.ins 0 = -1 := by
    rw [hi.2, List.drop_of_length_le (by omega)]
    rfl
  have first : ¬ Odd4 t := by
    rintro (h | h | h | h | h)
    · exact a1 h
    · exact a2 h
    · rw [some_in a3 a4] at h; cases h
    · rw [some_in a5 a6] at h; cases h
    · omega
  refine ⟨⟨0, ⟨Nat.zero_le _, by simp⟩, rfl⟩, fun i2 hi2 _ => ⟨fun hlt => ?_, fun hge2 => ?_⟩⟩
  · have hl2 : i2 < t.ins.length := by omega
    refine ⟨⟨0, ⟨by omega, fun x _ => by simp⟩, rfl⟩, fun j hj => ⟨fun hlt2 => ⟨by omega, hlt, fun y hy => ⟨by omega, by omega, fun y1 hy1 => ⟨fun heq => ?_, fun hne => ?_⟩⟩⟩, fun hge3 => ?_⟩⟩
    · change TIn at y
      change TIn at y1
      refine checkT_9 first fun hnd => ?_
      have hp : ptOf y = ptOf y1 := by
        simp only [Bool.and_eq_true, beq_iff_eq, and_true] at heq
        unfold ptOf
        rw [heq.1, heq.2]
      have hy' : t.ins[i2]? = some y := hy
      have hy1' : t.ins[j]? = some y1 := hy1
      have hjl : j < t.ins.length := by omega
      have h1 := List.pairwise_iff_getElem.1 hnd j i2 (by simpa using hjl) (by simpa using hl2) (by omega)
      rw [List.getElem?_eq_getElem hl2] at hy'
      rw [List.getElem?_eq_getElem hjl] at hy1'
      rw [List.getElem_map, List.getElem_map, Option.some.inj hy', Option.some.inj hy1'] at h1
      exact h1 hp.symm
    · change TIn at y
      change TIn at y1
      refine ⟨by unfold inI64; omega, j + 1, ⟨by omega, fun x hx => ?_⟩, by omega, by omega⟩
      have e : y = x := by
        have hy' : t.ins[i2]? = some y := hy
        rw [hy'] at hx
        exact Option.some.inj hx
      subst e
      have hy1' : t.ins[j]? = some y1 := hy1
      rw [List.take_add_one, hy1', List.map_append, List.mem_append]
      rintro (h | h)
      · exact hj.2 y hx h
      · simp only [Option.toList_some, List.map_cons, List.map_nil, List.mem_singleton] at h
        simp only [ptOf, Pt.mk.injEq] at h
        simp [h.1, h.2] at hne
    · refine ⟨by unfold inI64; omega, i2 + 1, ⟨by omega, ?_⟩, by omega, by omega⟩
      have hij : j = i2 := by omega
      subst hij
      have hx : t.ins[j]? = some t.ins[j] := List.getElem?_eq_getElem hl2
      rw [List.take_add_one, hx, List.map_append, List.nodup_append]
      refine ⟨hi2.2, by simp, fun p hp q hq e => ?_⟩
      simp only [Option.toList_some, List.map_cons, List.map_nil, List.mem_singleton] at hq
      subst e
      rw [hq] at hp
      exact hj.2 _ hx hp
  have hnd : (t.ins.map ptOf).Nodup := by
    have := hi2.2
    rwa [List.take_of_length_le (by omega)] at this
  have hout := checkT_o first hnd
  refine ⟨⟨0, ⟨Nat.zero_le _, rfl⟩, rfl⟩, fun k hk _ => ⟨fun hlt => ⟨by omega, hlt, fun y hy => ?_⟩, fun hge4 => ?_⟩⟩
  · change TOut at y
    have hd := dropAt (α := TOut) (y := y) hy
    have ho := hk.2
    rw [hd] at ho
    simp only [outsE] at ho
    have bad : outE y ≠ 0 → checkT t = outE y := fun h => by
      rw [if_neg h] at ho
      rw [hout, ho, if_pos h]
    refine ⟨fun h => ?_, fun c1 => ⟨by omega, hlt, fun y2 hy2 => ?_⟩⟩
    · have : outE y = 27 := by unfold outE; rw [if_pos h]
      rw [bad (by rw [this]; decide), this]
    have e : y = y2 := by rw [hy] at hy2; exact Option.some.inj hy2
    subst e
    refine ⟨fun h => ?_, fun c2 => ⟨by omega, hlt, fun y2 hy2 => ?_⟩⟩
    · have : outE y = 5 := by unfold outE; rw [if_neg c1, if_pos h]
      rw [bad (by rw [this]; decide), this]
    have e : y = y2 := by rw [hy] at hy2; exact Option.some.inj hy2
    subst e
    have hce : outE y = checkN y.cond := by unfold outE; rw [if_neg c1, if_neg c2]
    have hc := hs.c y (List.mem_of_getElem? hy)
    refine ⟨Nat.le_trans hc (by decide), fun h => ?_, fun h => ⟨by unfold inI64; omega, k + 1, ⟨by omega, ?_⟩, by omega, by omega⟩⟩
    · have h' : outE y ≠ 0 := by rw [hce]; simpa [checkN] using h
      rw [bad h', hce]
      rfl
    · have h' : outE y = 0 := by rw [hce]; simpa [checkN] using h
      rw [ho, if_pos h']
  · rw [hout, hk.2, List.drop_of_length_le (by omega)]
    rfl
theorem rcheck_ok : Fits F98 f73 (bodyOf f73) rcheckLS rcheckAnn := by
  constructor
  rw [← rcheck_eq]
  exact rcheck_vc
theorem f36_has : Has prog 73 f73 (bodyOf f73) := ⟨by kernel_rfl, by kernel_rfl, by kernel_rfl⟩
theorem known99 : Known prog L99 := by
  unfold L99
  exact known98.lent mixed f36_has F98_eq rcheck_ok (fun _ _ => Nat.le_refl _) (fun _ _ => rfl)
/-! ## The law -/
theorem Small.lens {t : TxD} (h : Small t) : Lens t where
  n := h.n
  m := h.m
  c := fun o ho => by
    have := weight_le ho
    have := h.w
    unfold weight at *
    omega
def checksTxVC : Prop := ∀ (x : TxD), Small x → (x.lock = x.lock ∧ x.ins = x.ins ∧ x.outs = x.outs ∧ True) ∧ True ∧ Small (TxD.mk x.lock x.ins x.outs) ∧ (longB (TxD.mk x.lock
  x.ins x.outs) = true → True ∧ True ∧ True ∧ true = true ∧ True ∧ True) ∧ (longB (TxD.mk x.lock x.ins x.outs) = false → (x.lock = x.lock ∧ x.ins = x.ins
  ∧ x.outs = x.outs ∧ True) ∧ True ∧ Small (TxD.mk x.lock x.ins x.outs) ∧ (x.lock = x.lock ∧ x.ins = x.ins ∧ x.outs = x.outs ∧ True) ∧ True ∧ True ∧
  (x.lock = x.lock ∧ x.ins = x.ins ∧ x.outs = x.outs ∧ True) ∧ True ∧ True ∧ (x.lock = x.lock ∧ x.ins = x.ins ∧ x.outs = x.outs ∧ True) ∧ True ∧ Small
  (TxD.mk x.lock x.ins x.outs) ∧ (x.lock = x.lock ∧ x.ins = x.ins ∧ x.outs = x.outs ∧ True) ∧ True ∧ True ∧ (x.lock = x.lock ∧ x.ins = x.ins ∧ x.outs =
  x.outs ∧ True) ∧ True ∧ Lens (TxD.mk x.lock x.ins x.outs) ∧ ((checkT (TxD.mk x.lock x.ins x.outs) == checkT (TxD.mk x.lock x.ins x.outs)) = true →
  (((totG x.outs (0 : Int)).fst == (totG x.outs (0 : Int)).fst) = true → (((totG x.outs (0 : Int)).snd == (totG x.outs (0 : Int)).snd) = true → True ∧
  True ∧ True ∧ true = true ∧ True ∧ True) ∧ (((totG x.outs (0 : Int)).snd == (totG x.outs (0 : Int)).snd) = false → true = false ∧ True ∧ True)) ∧
  (((totG x.outs (0 : Int)).fst == (totG x.outs (0 : Int)).fst) = false → true = false ∧ True ∧ True)) ∧ ((checkT (TxD.mk x.lock x.ins x.outs) == checkT
  (TxD.mk x.lock x.ins x.outs)) = false → true = false ∧ True ∧ True))
theorem checksTx_vc : checksTxVC := by
  intro t hs
  have h2 := hs.lens
  have h1 : Small (TxD.mk t.lock t.ins t.outs) := hs
  have h3 : Lens (TxD.mk t.lock t.ins t.outs) := h2
  simp only [h1, h3, and_self, beq_self_eq_true, implies_true, Bool.true_eq_false, false_implies]
end Go.Proofs.YtcglahfmnoghjaaGreatDoor

/-! What the reading of a transaction comes to; TxChecks' call. Conditions: none. -/
namespace Go.Proofs.YtcglahfmnoghjaaGreatDoor
open Go Go.Eng Go.Proofs.Tryz Go.ChangeShapes Go.WideShapes Go.RowKit

section
variable {H : Type} {enc : TypeId × Value → H} {w : World} {sp : Nat → Bool} {held : Bool}
theorem bulk_mem {d : DataW H} : ∀ {ds : List (DataW H)}, d ∈ ds → Rows.uptoBulk d ≤ Rows.uptoBulkAll ds
  | x :: ds, h => by
    simp only [Rows.uptoBulkAll]
    rcases List.mem_cons.1 h with e | h
    · subst e; omega
    · have := bulk_mem h; omega
theorem delems_all (d : DataW H) : Rows.uptoBulkAll (delems d) ≤ Rows.uptoBulk d := by
  cases d with
  | slice e sp => have := bulks.slice_elems e sp; simp only [delems]; omega
  | _ => simp [delems, Rows.uptoBulkAll]
structure GIn (x : TIn) (d : DataW H) : Prop where
  tx : x.tx.length = 32 ∧ Byt x.tx
  sec : x.secret.length ≤ Rows.uptoBulk d
  bytes : Byt x.secret
structure GOut (o : TOut) (d : DataW H) : Prop where
  wf : CondWf o.cond
  w : weight o.cond ≤ Rows.uptoBulk d
theorem rd_point_of {tP tL tI tE : TypeId} {fs : Array Field} (hP : prog.underlying tP = some (.struct fs)) (hfs : fs.toList.map (fun f => (f.type, f.offset)) = [(tL, 0), (tI, 32)]) (hL : prog.underlying tL = some (.array 32 tE)) (hE : prog.underlying tE = some (.int .u8))
    (hI : prog.underlying tI = some (.int .i64)) (cP : prog.cellsOf tP = 33) (cL : prog.cellsOf tL = 32) (cE : prog.cellsOf tE = 1) (cI : prog.cellsOf tI = 1) :
    RdT enc prog w sp held CC tP fun sl _ => ∃ p : Pt, sl = encPt p ∧ p.tx.length = 32 ∧ Byt p.tx := by
  match hl : fs.toList, hfs with
  | [f1, f2], hfs =>
    simp only [List.map_cons, List.map_nil, List.cons.injEq, Prod.mk.injEq, and_true] at hfs
    obtain ⟨⟨t1, o1⟩, t2, o2⟩ := hfs
    refine RdT.mono (rd_struct hP (by
      rw [hl]
      exact rd_fs_cons o1 (by rw [t1]; exact rd_arr hL hE cE cL) (rd_fs_cons (by rw [t1, cL, o2]) (by rw [t2]; exact rd_int hI) (rd_fs_nil (by rw [t1, t2, cL, cI, cP]; omega))))) ?_
    rintro sl d ⟨ds, rfl, s1, s2, d1, ds1, rfl, rfl, ⟨lk, rfl, h3, h4⟩, s3, s4, d2, ds2, rfl, rfl, ⟨n, rfl, h1⟩, rfl, rfl⟩
    exact ⟨⟨lk, n⟩, rfl, h3, fun y hy => wf8 (h4 y hy)⟩
  | [], hfs => simp at hfs
  | [_], hfs => simp at hfs
  | _ :: _ :: _ :: _, hfs => simp at hfs
theorem cells87 : prog.cellsOf 29 = 33 := by kernel_rfl
theorem rd_point : RdT enc prog w sp held CC 29 fun sl _ => ∃ p : Pt, sl = encPt p ∧ p.tx.length = 32 ∧ Byt p.tx :=
  rd_point_of underlying29 rfl underlying27 underlying5 underlying3 cells87 cells44 cells5 cells3
theorem rd_tin_of {tN tP tI tS tE : TypeId} {fs : Array Field} (hN : prog.underlying tN = some (.struct fs)) (hfs : fs.toList.map (fun f => (f.type, f.offset)) = [(tP, 0), (tI, 33), (tS, 34)]) (hP : tP = 29)
    (hI : prog.underlying tI = some (.int .i64)) (hS : prog.underlying tS = some (.slice tE)) (hE : prog.underlying tE = some (.int .u8)) (cN : prog.cellsOf tN = 35) (cI : prog.cellsOf tI = 1) (cS : prog.cellsOf tS = 1) (cE : prog.cellsOf tE = 1) :
    RdT enc prog w sp held CC tN fun sl d => ∃ x : AA 80, sl = CC.enc 80 x ∧ GIn (H := H) x d := by
  subst hP
  match hl : fs.toList, hfs with
  | [f1, f2, f3], hfs =>
    simp only [List.map_cons, List.map_nil, List.cons.injEq, Prod.mk.injEq, and_true] at hfs
    obtain ⟨⟨t1, o1⟩, ⟨t2, o2⟩, t3, o3⟩ := hfs
    refine RdT.mono (rd_struct hN (by
      rw [hl]
      exact rd_fs_cons o1 (by rw [t1]; exact rd_point) (rd_fs_cons (by rw [t1, cells87, o2]) (by rw [t2]; exact rd_int hI)
        (rd_fs_cons (by rw [t1, t2, cells87, cI, o3]) (by rw [t3]; exact rd_ints hS hE cE) (rd_fs_nil (by rw [t1, t2, t3, cells87, cI, cS, cN]; omega)))))) ?_
    rintro sl d ⟨ds, rfl, s1, s2, d1, ds1, rfl, rfl, ⟨p, rfl, h1, h2⟩, s3, s4, d2, ds2, rfl, rfl, ⟨n, rfl, _⟩, s5, s6, d3, ds3, rfl, rfl, ⟨xs, rfl, h3, h4⟩, rfl, rfl⟩
    refine ⟨TIn.mk p.tx p.n n xs, ?_, ⟨⟨h1, h2⟩, ?_, fun y hy => wf8 (h4 y hy)⟩⟩
    · rfl
    · have := delems_le d3
      simp only [Rows.uptoBulk, Rows.uptoBulkAll]
      omega
  | [], hfs => simp at hfs
  | [_], hfs => simp at hfs
  | [_, _], hfs => simp at hfs
  | _ :: _ :: _ :: _ :: _, hfs => simp at hfs
theorem cells117 : prog.cellsOf 80 = 35 := by kernel_rfl
theorem cells26' : prog.cellsOf 51 = 1 := by kernel_rfl
theorem rd_tin : RdT enc prog w sp held CC 80 fun sl d => ∃ x : AA 80, sl = CC.enc 80 x ∧ GIn (H := H) x d :=
  rd_tin_of underlying80 rfl rfl underlying3 underlying51 underlying5 cells117 cells3 cells26' cells5
theorem rd_tout_of {tO tI tC : TypeId} {fs : Array Field} (hO : prog.underlying tO = some (.struct fs)) (hfs : fs.toList.map (fun f => (f.type, f.offset)) = [(tI, 0), (tC, 1)]) (hI : prog.underlying tI = some (.int .i64)) (hC : tC = 50)
    (cO : prog.cellsOf tO = 2) (cI : prog.cellsOf tI = 1) :
    RdT enc prog w sp held CC tO fun sl d => ∃ x : AA 82, sl = CC.enc 82 x ∧ GOut (H := H) x d := by
  subst hC
  match hl : fs.toList, hfs with
  | [f1, f2], hfs =>
    simp only [List.map_cons, List.map_nil, List.cons.injEq, Prod.mk.injEq, and_true] at hfs
    obtain ⟨⟨t1, o1⟩, t2, o2⟩ := hfs
    refine RdT.mono (rd_struct hO (by
      rw [hl]
      exact rd_fs_cons o1 (by rw [t1]; exact rd_int hI) (rd_fs_cons (by rw [t1, cI, o2]) (by rw [t2]; exact rd_cond) (rd_fs_nil (by rw [t1, t2, cI, cells24, cO]; omega))))) ?_
    rintro sl d ⟨ds, rfl, s1, s2, d1, ds1, rfl, rfl, ⟨n, rfl, _⟩, s3, s4, d2, ds2, rfl, rfl, ⟨bs, rfl, h1, h2⟩, rfl, rfl⟩
    refine ⟨TOut.mk n bs, rfl, ⟨h1, ?_⟩⟩
    simp only [Rows.uptoBulk, Rows.uptoBulkAll]
    omega
  | [], hfs => simp at hfs
  | [_], hfs => simp at hfs
  | _ :: _ :: _ :: _, hfs => simp at hfs
theorem cells79 : prog.cellsOf 82 = 2 := by kernel_rfl
theorem rd_tout : RdT enc prog w sp held CC 82 fun sl d => ∃ x : AA 82, sl = CC.enc 82 x ∧ GOut (H := H) x d :=
  rd_tout_of underlying82 rfl underlying3 rfl cells79 cells3
theorem sumW_le : ∀ {os : List TOut} {ds : List (DataW H)}, os.length = ds.length → (∀ (j : Nat) y d, os[j]? = some y → ds[j]? = some d → GOut y d) → sumW os ≤ Rows.uptoBulkAll ds
  | [], [], _, _ => by simp [sumW]
  | o :: os, d :: ds, hl, h => by
    have h1 := (h 0 o d rfl rfl).w
    have h2 := sumW_le (os := os) (ds := ds) (by simpa using hl) (fun j y d' hy hd => h (j + 1) y d' (by simpa using hy) (by simpa using hd))
    simp only [sumW, Rows.uptoBulkAll]
    omega
  | [], _ :: _, hl, _ => by simp at hl
  | _ :: _, [], hl, _ => by simp at hl
theorem sumS_le : ∀ {xs : List TIn} {ds : List (DataW H)}, xs.length = ds.length → (∀ (j : Nat) y d, xs[j]? = some y → ds[j]? = some d → GIn y d) → sumS xs ≤ Rows.uptoBulkAll ds
  | [], [], _, _ => by simp [sumS]
  | o :: os, d :: ds, hl, h => by
    have h1 := (h 0 o d rfl rfl).sec
    have h2 := sumS_le (xs := os) (ds := ds) (by simpa using hl) (fun j y d' hy hd => h (j + 1) y d' (by simpa using hy) (by simpa using hd))
    simp only [sumS, Rows.uptoBulkAll]
    omega
  | [], _ :: _, hl, _ => by simp at hl
  | _ :: _, [], hl, _ => by simp at hl
structure TxIs (t : TxD) (n : Nat) : Prop where
  sum : sumS t.ins ≤ n
  ins : t.ins.length ≤ n
  outs : t.outs.length ≤ n
  w : sumW t.outs ≤ n
  i : ∀ x, x ∈ t.ins → (x.tx.length = 32 ∧ Byt x.tx) ∧ x.secret.length ≤ n ∧ Byt x.secret
  o : ∀ o, o ∈ t.outs → CondWf o.cond
theorem rd_tx_of {tT tI tA tB : TypeId} {fs : Array Field} (hT : prog.underlying tT = some (.struct fs)) (hfs : fs.toList.map (fun f => (f.type, f.offset)) = [(tI, 0), (tA, 1), (tB, 2)]) (hI : prog.underlying tI = some (.int .i64))
    (hA : prog.underlying tA = some (.slice 80)) (hB : prog.underlying tB = some (.slice 82)) (cT : prog.cellsOf tT = 3) (cI : prog.cellsOf tI = 1) (cA : prog.cellsOf tA = 1) (cB : prog.cellsOf tB = 1) :
    RdT enc prog w sp held CC tT fun sl d => ∃ t : TxD, sl = txRSL t ∧ TxIs t (Rows.uptoBulk d) := by
  match hl : fs.toList, hfs with
  | [f1, f2, f3], hfs =>
    simp only [List.map_cons, List.map_nil, List.cons.injEq, Prod.mk.injEq, and_true] at hfs
    obtain ⟨⟨t1, o1⟩, ⟨t2, o2⟩, t3, o3⟩ := hfs
    refine RdT.mono (rd_struct hT (by
      rw [hl]
      exact rd_fs_cons o1 (by rw [t1]; exact rd_int hI) (rd_fs_cons (by rw [t1, cI, o2]) (by rw [t2]; exact rd_seq (u := 80) (G := fun x d => GIn (H := H) x d) hA cells117 (by decide) rd_tin)
        (rd_fs_cons (by rw [t1, t2, cI, cA, o3]) (by rw [t3]; exact rd_seq (u := 82) (G := fun x d => GOut (H := H) x d) hB cells79 (by decide) rd_tout) (rd_fs_nil (by rw [t1, t2, t3, cI, cA, cB, cT]; omega)))))) ?_
    rintro sl d ⟨ds, rfl, s1, s2, d1, ds1, rfl, rfl, ⟨n, rfl, _⟩, s3, s4, d2, ds2, rfl, rfl, ⟨xs, rfl, h1, h2⟩, s5, s6, d3, ds3, rfl, rfl, ⟨os, rfl, h3, h4⟩, rfl, rfl⟩
    have g1 := delems_le d2
    have g2 := delems_le d3
    have g3 := delems_all d2
    have g4 := delems_all d3
    have g5 := sumW_le (os := os) h3 h4
    have hb : Rows.uptoBulk d2 + Rows.uptoBulk d3 ≤ Rows.uptoBulk (.agg [d1, d2, d3]) := by
      simp only [Rows.uptoBulk, Rows.uptoBulkAll]
      omega
    have g6 := sumS_le (xs := xs) h1 h2
    refine ⟨TxD.mk n xs os, rfl, ⟨?_, ?_, ?_, ?_, fun x hx => ?_, fun o ho => ?_⟩⟩
    · show sumS xs ≤ _
      omega
    · have : xs.length = (delems d2).length := h1
      show xs.length ≤ _
      omega
    · have : os.length = (delems d3).length := h3
      show os.length ≤ _
      omega
    · show sumW os ≤ _
      omega
    · obtain ⟨j, hj⟩ := List.getElem?_of_mem hx
      have hl2 : j < (delems d2).length := by
        have := (List.getElem?_eq_some_iff.1 hj).1
        rw [← h1]; exact this
      have hd := List.getElem?_eq_getElem hl2
      have h5 := h2 j x _ hj hd
      have h6 := bulk_mem (List.mem_of_getElem? hd)
      exact ⟨h5.tx, by have := h5.sec; omega, h5.bytes⟩
    · obtain ⟨j, hj⟩ := List.getElem?_of_mem ho
      have hl2 : j < (delems d3).length := by
        have := (List.getElem?_eq_some_iff.1 hj).1
        rw [← h3]; exact this
      exact (h4 j o _ hj (List.getElem?_eq_getElem hl2)).wf
  | [], hfs => simp at hfs
  | [_], hfs => simp at hfs
  | [_, _], hfs => simp at hfs
  | _ :: _ :: _ :: _ :: _, hfs => simp at hfs
theorem cells63 : prog.cellsOf 25 = 3 := by kernel_rfl
theorem cells60 : prog.cellsOf 22 = 1 := by kernel_rfl
theorem cells61 : prog.cellsOf 23 = 1 := by kernel_rfl
theorem rd_tx : RdT enc prog w sp held CC 25 fun sl d => ∃ t : TxD, sl = txRSL t ∧ TxIs t (Rows.uptoBulk d) :=
  rd_tx_of underlying25 rfl underlying3 underlying22 underlying23 cells63 cells3 cells60 cells61
end
theorem TxIs.small {t : TxD} {n : Nat} (h : TxIs t n) (hn : n ≤ 1048576) : Small t where
  n := Nat.le_trans h.ins (by omega)
  m := Nat.le_trans h.outs (by omega)
  s := fun x hx => Nat.le_trans (h.i x hx).2.1 (by omega)
  w := Nat.le_trans h.w (by omega)
theorem TxIs.ok {t : TxD} {n : Nat} (h : TxIs t n) (hn : n ≤ 1048576) : TxOk t where
  n := Nat.le_trans h.ins (by omega)
  m := Nat.le_trans h.outs (by omega)
  w := Nat.le_trans h.w (by omega)
  tx := fun x hx => (h.i x hx).1
  locks := fun o ho => ⟨fun b hb => (h.o o ho b hb).lock, fun b hb y hy => wf8 ((h.o o ho b hb).bytes y hy)⟩
end Go.Proofs.YtcglahfmnoghjaaGreatDoor

/-! Bytes held against bytes, by their order; points: what is said of them. Conditions: none. -/
namespace Go.Proofs.YtcglahfmnoghjaaGreatDoor
open Go Go.Eng Go.Proofs.Tryz

/-- Which of two rows of numbers is ahead. -/
def lexN : List Int → List Int → Int
  | [], [] => 0
  | [], _ :: _ => -1
  | _ :: _, [] => 1
  | x :: l, y :: m => if x = y then lexN l m else if x < y then -1 else 1
/-- Bytes, as they are held against others by the run time. -/
def cmpB (xs ys : List Int) : Int := Extern.BytealgCompare.cmp (strOfNums xs) (strOfNums ys)
def cmpT : SpecT AA := fun args sh K => match args with
  | [a, b] => match intsOfS sh a, intsOfS sh b with
    | some (k, xs), some (k', ys) => if Go.Eng.kindOk k .u8 then (if Go.Eng.kindOk k' .u8 then K (.int .i64 (cmpB xs ys)) sh else False) else False
    | _, _ => False
  | _ => False
theorem run_loadBytes {P : Program} {w : World} {b : Nat} : ∀ (xs : List Int) (o : Nat) (acc : ByteArray), (∀ (j : Nat) u, (xs.map (Value.int .u8))[j]? = some u → w.cell? ⟨b, o + j, none⟩ = some u) →
    (Extern.Bytes.loadBytes ⟨b, o, none⟩ xs.length acc).run P w = .ok (xs.foldl (fun r n => r.push (UInt8.ofNat n.toNat)) acc) w
  | [], o, acc, _ => by simp [Extern.Bytes.loadBytes]
  | x :: xs, o, acc, h => by
    have h0 := h 0 (.int .u8 x) rfl
    rw [Nat.add_zero] at h0
    have ih := run_loadBytes (P := P) (w := w) (b := b) xs (o + 1) (acc.push x.toNat.toUInt8) (fun j u hu => by
      have := h (j + 1) u (by simpa using hu)
      rw [show o + 1 + j = o + (j + 1) from by omega]
      exact this)
    simp only [List.length_cons, Extern.Bytes.loadBytes, Sem.run_bind, run_load, h0, Result.andThen_ok, List.foldl_cons]
    rw [Addr.add_lit]
    exact ih
theorem run_bytesOf {P : Program} {w : World} {v : Value} {xs : List Int} (h : Reads w v xs.length (xs.map (Value.int .u8))) : (Extern.Bytes.bytesOf v).run P w = .ok (strOfNums xs) w := by
  have hnil : ∀ ad c, xs = [] → v = .slice ad 0 c → (Extern.Bytes.bytesOf v).run P w = .ok (strOfNums xs) w := by
    intro ad c hx hv
    subst hx; subst hv
    cases ad <;> simp [Extern.Bytes.bytesOf, Extern.Bytes.loadBytes] <;> rfl
  rcases h with ⟨ad, c, hv, h2⟩ | ⟨h2, h3, ad, c, hv⟩
  · rcases h2 with ⟨h3, h4, h5⟩ | ⟨b, o', h3, hc⟩
    · exact hnil ad c (List.eq_nil_of_length_eq_zero h4) (by rw [hv, h4])
    · subst hv; subst h3
      simp only [Extern.Bytes.bytesOf]
      rw [run_loadBytes xs o' .empty hc, foldl_push_bytes]
      simp [strOfNums, ByteArray.empty, ByteArray.emptyWithCapacity]
      rfl
  · exact hnil ad c (by simpa using h2) (by rw [hv])
theorem f105_name : (f87.name == "runtime.NumGoroutine") = false := by kernel_rfl
theorem f105_none : f87.body.isNone = true := by kernel_rfl
theorem f105_next : Extern.findNext f87 = none := by kernel_rfl
theorem f105_find : Extern.find f87 = some Extern.BytealgCompare.compare := by kernel_rfl
noncomputable def L100 : List (Nat × SpecT AA) := (87, cmpT) :: L94
theorem known100 : Known prog L100 := by
  unfold L100
  refine Known.cons ?_ known94
  intro args sh K hk O env w vs ha hh hg
  unfold cmpT at hk
  split at hk
  case h_2 => exact hk.elim
  rename_i a b
  obtain ⟨u, us, rfl, h1, h2⟩ := ha
  obtain ⟨v, us', rfl, h3, h4⟩ := h2
  have h5 : us' = [] := h4
  subst h5
  split at hk
  case h_2 => exact hk.elim
  rename_i k xs k' ys hx hy
  split at hk
  case isFalse => exact hk.elim
  rename_i hkx
  split at hk
  case isFalse => exact hk.elim
  rename_i hky
  have r1 := run_bytesOf (P := prog) (ints_reads hh hx hkx h1)
  have r2 := run_bytesOf (P := prog) (ints_reads hh hy hky h3)
  intro o act next Q hn
  have hrun : (callFunc 87 #[u, v]).run prog w = .ok (.value (.int .i64 (cmpB xs ys))) w := by
    rw [run_callFunc_extern func87 f105_name f105_none f105_next f105_find]
    have e : Extern.BytealgCompare.compare #[u, v] = (do pure (goInt (Extern.BytealgCompare.cmp (← Extern.Bytes.bytesOf u) (← Extern.Bytes.bytesOf v)))) := rfl
    rw [e]
    simp [r1, r2, goInt, cmpB]
  show o.upon prog act next Q ((callFunc 87 #[u, v]).run prog w)
  rw [hrun, Oper.upon_value]
  exact hn _ _ (left_old hh (Old.refl _) rfl rfl rfl .int hk)
noncomputable def E100 : Eng AA := EE prog L100
theorem E100_eq : E100 = EE prog L100 := by
  unfold E100
  rfl
theorem f74_has : Has prog 42 f42 (bodyOf f42) := ⟨by kernel_rfl, by kernel_rfl, by kernel_rfl⟩
noncomputable def L101 : List (Nat × SpecT AA) := (42, tInline E100 f42 (bodyOf f42) (noAnn ())) :: L100
noncomputable def E101 : Eng AA := EE prog L101
theorem E101_eq : E101 = EE prog L101 := by
  unfold E101
  rfl
def nanLS : LS AA where
  X := Int
  pre := fun _ => True
  args := fun n => [.int .i64 n]
  hin := fun _ => []
  res := fun _ => [.sb 0 false]
  hout := fun _ => []
noncomputable def L102 : List (Nat × SpecT AA) := (88, tLent nanLS intGet) :: L101
noncomputable def E102 : Eng AA := EE prog L102
theorem E102_eq : E102 = EE prog L102 := by
  unfold E102
  rfl
def cmpI (a b : Int) : Int := if a < b then -1 else if a > b then 1 else 0
def compareLS : LS AA where
  X := Int × Int
  pre := fun _ => True
  args := fun x => [.int .i64 x.1, .int .i64 x.2]
  hin := fun _ => []
  res := fun x => [.int .i64 (cmpI x.1 x.2)]
  hout := fun _ => []
def twoGet (args : List (SV AA)) (_ : List (SO AA)) : Option (Int × Int) := match args with
  | [a, b] => match asI a, asI b with
    | some a, some b => some (a, b)
    | _, _ => none
  | _ => none
noncomputable def L103 : List (Nat × SpecT AA) := (43, tLent compareLS twoGet) :: L102
noncomputable def E103 : Eng AA := EE prog L103
theorem E103_eq : E103 = EE prog L103 := by
  unfold E103
  rfl
/-- The first that is not 0. -/
def orN : List Int → Int
  | [] => 0
  | x :: l => if x = 0 then orN l else x
def orIntLS : LS AA where
  X := List Int
  pre := fun _ => True
  args := fun l => [.rints .i64 l]
  hin := fun _ => []
  res := fun l => [.int .i64 (orN l)]
  hout := fun _ => []
def orIntAnn (l : List Int) : Anns AA := fun _ _ _ => some {
  X := Nat
  inv := fun n => n ≤ l.length ∧ orN l = orN (l.drop n)
  meas := fun n => l.length - n
  slots := fun n => [(8, .int .i64 n)]
  heap := fun _ => [] }
noncomputable def L104 : List (Nat × SpecT AA) := (41, tLent orIntLS cloneIGet) :: L103
noncomputable def E104 : Eng AA := EE prog L104
theorem E104_eq : E104 = EE prog L104 := by
  unfold E104
  rfl
def lessB (p q : Pt) : Bool := decide (orN [cmpB p.tx q.tx, cmpI p.n q.n] < 0)
def lessLS : LS AA where
  X := Pt × Pt
  pre := fun _ => True
  args := fun x => [.agg (encPt x.1), .agg (encPt x.2)]
  hin := fun _ => []
  res := fun x => [.sb 0 (lessB x.1 x.2)]
  hout := fun _ => []
def decPt : SV AA → Option Pt
  | .agg (.run .u8 _ tx (.cell n .nil)) => match asI n with
    | some n => some ⟨tx, n⟩
    | none => none
  | _ => none
def lessGet (args : List (SV AA)) (_ : List (SO AA)) : Option (Pt × Pt) := match args with
  | [a, b] => match decPt a, decPt b with
    | some a, some b => some (a, b)
    | _, _ => none
  | _ => none
noncomputable def L105 : List (Nat × SpecT AA) := (15, tLent lessLS lessGet) :: L104
noncomputable def E105 : Eng AA := EE prog L105
theorem E105_eq : E105 = EE prog L105 := by
  unfold E105
  rfl
/-! ## The law -/
structure OrdX where
  p : Pt
  q : Pt
  r : Pt
def PtOk (p : Pt) : Prop := p.tx.length = 32 ∧ Byt p.tx
structure OrdX.Ok (x : OrdX) : Prop where
  p : PtOk x.p
  q : PtOk x.q
  r : PtOk x.r
def orderLS : LS AA where
  X := OrdX
  pre := OrdX.Ok
  args := fun x => [.agg (encPt x.p), .agg (encPt x.q), .agg (encPt x.r)]
  hin := fun _ => []
  res := fun _ => [.sb 0 true]
  hout := fun _ => []
end Go.Proofs.YtcglahfmnoghjaaGreatDoor

/-! Points, by their order: plain laws; the walks hold. Conditions: none. -/
namespace Go.Proofs.YtcglahfmnoghjaaGreatDoor
open Go Go.Eng Go.Proofs.Tryz

theorem known101 : Known prog L101 := by
  unfold L101
  exact known100.inl mixed f74_has E100_eq (by rfl)
def nanVC : Prop := ∀ (x : Int), True → false = (x != x) ∧ True ∧ True
theorem nan_eq : nanVC = fnS E101 f88 (bodyOf f88) nanLS noAnn := by kernel_rfl
theorem nan_ok : Fits E101 f88 (bodyOf f88) nanLS noAnn := by
  constructor
  rw [← nan_eq]
  exact fun x _ => ⟨by simp, trivial, trivial⟩
theorem f106_has : Has prog 88 f88 (bodyOf f88) := ⟨by kernel_rfl, by kernel_rfl, by kernel_rfl⟩
theorem known102 : Known prog L102 := by
  unfold L102
  exact known101.lent mixed f106_has E101_eq nan_ok (fun _ _ => Nat.le_refl _) (fun _ _ => rfl)
def compareVC : Prop := ∀ (x : Int × Int), True → x.fst = x.fst ∧ True ∧ True ∧ x.snd = x.snd ∧ True ∧ True ∧ (false = true → (false = true → cmpI x.fst x.snd = (0 : Int) ∧
  True ∧ True) ∧ (false = false → cmpI x.fst x.snd = (-1 : Int) ∧ True ∧ True)) ∧ (false = false → (false = true → cmpI x.fst x.snd = (1 : Int) ∧ True ∧
  True) ∧ (false = false → (decide (x.fst < x.snd) = true → cmpI x.fst x.snd = (-1 : Int) ∧ True ∧ True) ∧ (decide (x.fst < x.snd) = false → (decide
  (x.fst > x.snd) = true → cmpI x.fst x.snd = (1 : Int) ∧ True ∧ True) ∧ (decide (x.fst > x.snd) = false → cmpI x.fst x.snd = (0 : Int) ∧ True ∧ True))))
theorem compare_eq : compareVC = fnS E102 f43 (bodyOf f43) compareLS noAnn := by kernel_rfl
theorem compare_ok : Fits E102 f43 (bodyOf f43) compareLS noAnn := by
  constructor
  rw [← compare_eq]
  rintro ⟨a, b⟩ _
  simp only [true_and, and_true, Bool.false_eq_true, false_implies, forall_const, decide_eq_true_eq, decide_eq_false_iff_not, cmpI]
  refine ⟨fun h => by rw [if_pos h], fun h => ⟨fun h2 => by rw [if_neg h, if_pos h2], fun h2 => by rw [if_neg h, if_neg h2]⟩⟩
theorem f75_has : Has prog 43 f43 (bodyOf f43) := ⟨by kernel_rfl, by kernel_rfl, by kernel_rfl⟩
theorem known103 : Known prog L103 := by
  unfold L103
  exact known102.lent mixed f75_has E102_eq compare_ok (fun _ _ => Nat.le_refl _) (fun _ _ => rfl)
def orIntVC : Prop := ∀ (x : List Int), True → (↑x.length : Int) ≤ (9223372036854775807 : Int) → (∃ x_1, (x_1 ≤ x.length ∧ orN x = orN (List.drop x_1 x)) ∧ (↑x_1 : Int) = (0
  : Int) ∧ True ∧ True) ∧ ∀ (x_1 : Nat), x_1 ≤ x.length ∧ orN x = orN (List.drop x_1 x) → (decide ((↑x_1 : Int) < (↑x.length : Int)) = true → (0 : Int) ≤
  (↑x_1 : Int) ∧ (↑x_1 : Int) < (↑x.length : Int) ∧ (↑x_1 : Int).toNat < x.length ∧ ((x.getD (↑x_1 : Int).toNat (0 : Int) != (0 : Int)) = true → orN x =
  x.getD (↑x_1 : Int).toNat (0 : Int) ∧ True ∧ True) ∧ ((x.getD (↑x_1 : Int).toNat (0 : Int) != (0 : Int)) = false → inI64 ((↑x_1 : Int) + (1 : Int)) ∧ ∃
  y, (y ≤ x.length ∧ orN x = orN (List.drop y x)) ∧ x.length - y < x.length - x_1 ∧ (↑y : Int) = (↑x_1 : Int) + (1 : Int) ∧ True ∧ True)) ∧ (decide
  ((↑x_1 : Int) < (↑x.length : Int)) = false → orN x = (0 : Int) ∧ True ∧ True)
theorem orInt_eq : orIntVC = fnS E103 f41 (bodyOf f41) orIntLS orIntAnn := by kernel_rfl
theorem orInt_ok : Fits E103 f41 (bodyOf f41) orIntLS orIntAnn := by
  constructor
  rw [← orInt_eq]
  intro l _
  simp only [and_true, decide_eq_true_eq, decide_eq_false_iff_not, Int.toNat_natCast, bne_iff_ne, bne_eq_false_iff_eq, ne_eq]
  refine fun _ => ⟨⟨0, ⟨Nat.zero_le _, rfl⟩, rfl⟩, fun i hi => ⟨fun h => ?_, fun h => ?_⟩⟩
  · have hi' : i < l.length := by omega
    refine ⟨by omega, h, hi', fun h0 => ?_, fun h0 => ⟨by unfold inI64; omega, i + 1, ⟨hi', ?_⟩, by omega, by omega⟩⟩
    · rw [hi.2, drop_cons' hi']
      simp only [orN, if_neg h0]
    · rw [hi.2, drop_cons' hi']
      simp only [orN, if_pos h0]
  · rw [hi.2, List.drop_of_length_le (by omega)]
    rfl
theorem f73_has : Has prog 41 f41 (bodyOf f41) := ⟨by kernel_rfl, by kernel_rfl, by kernel_rfl⟩
theorem known104 : Known prog L104 := by
  unfold L104
  exact known103.lent mixed f73_has E103_eq orInt_ok (fun _ _ => Nat.le_refl _) (fun _ _ => rfl)
def lessVC : Prop := ∀ (x : Pt × Pt), True → ((x.fst.n = x.fst.n ∧ x.snd.n = x.snd.n) ∧ True ∧ True ∧ [cmpB x.fst.tx x.snd.tx, cmpI x.fst.n x.snd.n] = [cmpB x.fst.tx
  x.snd.tx, cmpI x.fst.n x.snd.n] ∧ True ∧ True ∧ lessB x.fst x.snd = decide (orN [cmpB x.fst.tx x.snd.tx, cmpI x.fst.n x.snd.n] < (0 : Int)) ∧ True ∧
  True) ∧ (((x.fst.n = x.fst.n ∧ x.snd.n = x.snd.n) ∧ True ∧ True ∧ [cmpB x.fst.tx x.snd.tx, cmpI x.fst.n x.snd.n] = [cmpB x.fst.tx x.snd.tx, cmpI
  x.fst.n x.snd.n] ∧ True ∧ True ∧ lessB x.fst x.snd = decide (orN [cmpB x.fst.tx x.snd.tx, cmpI x.fst.n x.snd.n] < (0 : Int)) ∧ True ∧ True) ∧ (x.fst.n
  = x.fst.n ∧ x.snd.n = x.snd.n) ∧ True ∧ True ∧ [cmpB x.fst.tx x.snd.tx, cmpI x.fst.n x.snd.n] = [cmpB x.fst.tx x.snd.tx, cmpI x.fst.n x.snd.n] ∧ True ∧
  True ∧ lessB x.fst x.snd = decide (orN [cmpB x.fst.tx x.snd.tx, cmpI x.fst.n x.snd.n] < (0 : Int)) ∧ True ∧ True) ∧ ((x.fst.n = x.fst.n ∧ x.snd.n =
  x.snd.n) ∧ True ∧ True ∧ [cmpB x.fst.tx x.snd.tx, cmpI x.fst.n x.snd.n] = [cmpB x.fst.tx x.snd.tx, cmpI x.fst.n x.snd.n] ∧ True ∧ True ∧ lessB x.fst
  x.snd = decide (orN [cmpB x.fst.tx x.snd.tx, cmpI x.fst.n x.snd.n] < (0 : Int)) ∧ True ∧ True) ∧ (x.fst.n = x.fst.n ∧ x.snd.n = x.snd.n) ∧ True ∧ True
  ∧ [cmpB x.fst.tx x.snd.tx, cmpI x.fst.n x.snd.n] = [cmpB x.fst.tx x.snd.tx, cmpI x.fst.n x.snd.n] ∧ True ∧ True ∧ lessB x.fst x.snd = decide (orN [cmpB
  x.fst.tx x.snd.tx, cmpI x.fst.n x.snd.n] < (0 : Int)) ∧ True ∧ True
theorem less_eq : lessVC = fnS E104 f15 (bodyOf f15) lessLS noAnn := by kernel_rfl
theorem less_ok : Fits E104 f15 (bodyOf f15) lessLS noAnn := by
  constructor
  rw [← less_eq]
  intro x _
  simp only [lessB, and_self]
theorem f39_has : Has prog 15 f15 (bodyOf f15) := ⟨by kernel_rfl, by kernel_rfl, by kernel_rfl⟩
theorem known105 : Known prog L105 := by
  unfold L105
  exact known104.lent mixed f39_has E104_eq less_ok (fun _ _ => Nat.le_refl _) (fun _ _ => rfl)
/-! ## The order -/
theorem lexN_self : ∀ l : List Int, lexN l l = 0
  | [] => rfl
  | x :: l => by simp [lexN, lexN_self l]
theorem lexN_zero : ∀ {a b : List Int}, lexN a b = 0 → a = b
  | [], [], _ => rfl
  | [], _ :: _, h => by simp [lexN] at h
  | _ :: _, [], h => by simp [lexN] at h
  | x :: a, y :: b, h => by
    simp only [lexN] at h
    split at h
    · rename_i e
      rw [e, lexN_zero h]
    · split at h <;> cases h
theorem lexN_flip : ∀ a b : List Int, lexN b a = - lexN a b
  | [], [] => rfl
  | [], _ :: _ => rfl
  | _ :: _, [] => rfl
  | x :: a, y :: b => by
    simp only [lexN]
    by_cases e : x = y
    · rw [if_pos e, if_pos e.symm]
      exact lexN_flip a b
    · rw [if_neg e, if_neg (fun h => e h.symm)]
      split <;> split <;> omega
theorem lexN_sign : ∀ a b : List Int, lexN a b = 0 ∨ lexN a b = -1 ∨ lexN a b = 1
  | [], [] => .inl rfl
  | [], _ :: _ => .inr (.inl rfl)
  | _ :: _, [] => .inr (.inr rfl)
  | x :: a, y :: b => by
    simp only [lexN]
    split
    · exact lexN_sign a b
    · split
      · exact .inr (.inl rfl)
      · exact .inr (.inr rfl)
theorem lexN_trans : ∀ {a b c : List Int}, lexN a b < 0 → lexN b c < 0 → lexN a c < 0
  | [], [], _, h, _ => by simp [lexN] at h
  | [], _ :: _, [], _, h => by simp [lexN] at h
  | [], _ :: _, _ :: _, _, _ => by simp [lexN]
  | _ :: _, [], _, h, _ => by simp [lexN] at h
  | _ :: _, _ :: _, [], _, h => by simp [lexN] at h
  | x :: a, y :: b, z :: c, h1, h2 => by
    simp only [lexN] at h1 h2 ⊢
    split at h1
    · rename_i e1
      subst e1
      split at h2
      · rename_i e2
        subst e2
        rw [if_pos rfl]
        exact lexN_trans h1 h2
      · rename_i e2
        rw [if_neg e2]
        exact h2
    · rename_i e1
      have hxy : x < y := by
        split at h1
        · assumption
        · omega
      split at h2
      · rename_i e2
        subst e2
        rw [if_neg e1, if_pos hxy]
        decide
      · rename_i e2
        have hyz : y < z := by
          split at h2
          · assumption
          · omega
        rw [if_neg (by omega), if_pos (by omega)]
        decide
/-- The run time's order of bytes is that of their rows. -/
theorem strOf_get {xs : List Int} {i : Nat} (h : i < xs.length) : (strOfNums xs)[i]! = UInt8.ofNat (xs.getD i 0).toNat := by
  have hs : i < (strOfNums xs).size := by rw [strOfNums_size]; exact h
  rw [getElem!_pos (strOfNums xs) i hs]
  show (strOfNums xs).data[i] = _
  simp only [strOfNums]
  rw [List.getElem_toArray, List.getElem_map, List.getD_eq_getElem?_getD, List.getElem?_eq_getElem h]
  rfl
theorem byt_nat {xs : List Int} (hb : Byt xs) {i : Nat} (h : i < xs.length) : ((xs.getD i 0).toNat : Int) = xs.getD i 0 ∧ (xs.getD i 0).toNat < 256 := by
  have := hb (xs.getD i 0) (by rw [List.getD_eq_getElem?_getD, List.getElem?_eq_getElem h]; exact List.getElem_mem h)
  omega
theorem ofNat_eq {a b : Nat} (ha : a < 256) (hb : b < 256) : (UInt8.ofNat a = UInt8.ofNat b) ↔ a = b := by
  constructor
  · intro h
    have := congrArg UInt8.toNat h
    simp only [UInt8.toNat_ofNat'] at this
    omega
  · intro h; rw [h]
theorem ofNat_lt {a b : Nat} (ha : a < 256) (hb : b < 256) : (UInt8.ofNat a < UInt8.ofNat b) ↔ a < b := by
  rw [UInt8.lt_iff_toNat_lt]
  simp only [UInt8.toNat_ofNat']
  omega
theorem lexN_at : ∀ {i : Nat} {xs ys : List Int}, i < xs.length → i < ys.length → (∀ j, j < i → xs.getD j 0 = ys.getD j 0) → xs.getD i 0 ≠ ys.getD i 0 → lexN xs ys = if xs.getD i 0 < ys.getD i 0 then -1 else 1
  | _, [], _, h, _, _, _ => by simp at h
  | _, _ :: _, [], _, h, _, _ => by simp at h
  | 0, x :: xs, y :: ys, _, _, _, hne => by
    simp only [List.getD_cons_zero] at hne ⊢
    simp only [lexN]
    rw [if_neg hne]
  | i + 1, x :: xs, y :: ys, h1, h2, he, hne => by
    have h0 := he 0 (by omega)
    simp only [List.getD_cons_zero] at h0
    simp only [List.getD_cons_succ] at hne ⊢
    simp only [lexN]
    rw [if_pos h0]
    exact lexN_at (by simpa using h1) (by simpa using h2) (fun j hj => by simpa using he (j + 1) (by omega)) hne
theorem cmpB_lex {xs ys : List Int} (hx : Byt xs) (hy : Byt ys) (hl : xs.length = ys.length) : cmpB xs ys = lexN xs ys := by
  unfold cmpB Extern.BytealgCompare.cmp
  rw [strOfNums_size, strOfNums_size, ← hl, Nat.min_self]
  have key : ∀ j, j < xs.length → ((strOfNums xs)[j]! != (strOfNums ys)[j]!) = decide (xs.getD j 0 ≠ ys.getD j 0) := fun j hj => by
    have hj' : j < ys.length := by omega
    obtain ⟨h1, h2⟩ := byt_nat hx hj
    obtain ⟨h3, h4⟩ := byt_nat hy hj'
    rw [strOf_get hj, strOf_get hj', Bool.eq_iff_iff]
    simp only [bne_iff_ne, ne_eq, decide_eq_true_eq]
    rw [ofNat_eq h2 h4]
    omega
  split
  · rename_i i hi
    obtain ⟨h1, h2, h3⟩ := List.find?_range_eq_some.1 hi
    have hi' : i < xs.length := List.mem_range.1 h2
    have hi2 : i < ys.length := by omega
    rw [key i hi'] at h1
    simp only [decide_eq_true_eq] at h1
    rw [lexN_at hi' hi2 (fun j hj => by
      have h4 := h3 j hj
      rw [key j (by omega)] at h4
      simpa using h4) h1]
    obtain ⟨h5, h6⟩ := byt_nat hx hi'
    obtain ⟨h7, h8⟩ := byt_nat hy hi2
    rw [strOf_get hi', strOf_get hi2]
    by_cases hc : xs.getD i 0 < ys.getD i 0
    · rw [if_pos hc, if_pos ((ofNat_lt h6 h8).2 (by omega))]
    · rw [if_neg hc, if_neg (fun h => hc (by have := (ofNat_lt h6 h8).1 h; omega))]
  · rename_i hi
    have heq : xs = ys := by
      refine List.ext_getElem hl fun j h1 h2 => ?_
      have h3 := List.find?_eq_none.1 hi j (List.mem_range.2 h1)
      rw [key j h1] at h3
      simp only [decide_eq_true_eq, ne_eq, Decidable.not_not] at h3
      rw [List.getD_eq_getElem?_getD, List.getD_eq_getElem?_getD, List.getElem?_eq_getElem h1, List.getElem?_eq_getElem h2] at h3
      exact h3
    rw [heq, lexN_self]
    simp
/-! ## Points -/
theorem lessB_iff {p q : Pt} (hp : PtOk p) (hq : PtOk q) : lessB p q = true ↔ lexN p.tx q.tx < 0 ∨ (lexN p.tx q.tx = 0 ∧ p.n < q.n) := by
  unfold lessB
  rw [cmpB_lex hp.2 hq.2 (hp.1.trans hq.1.symm), decide_eq_true_eq]
  have hc : cmpI p.n q.n < 0 ↔ p.n < q.n := by
    unfold cmpI
    split
    · omega
    · split <;> omega
  generalize cmpI p.n q.n = d at hc ⊢
  simp only [orN]
  by_cases h : lexN p.tx q.tx = 0
  · rw [if_pos h]
    split <;> omega
  · rw [if_neg h]
    omega
theorem lessB_not {p q : Pt} (hp : PtOk p) (hq : PtOk q) (h : lessB p q = true) : lessB q p = false := by
  cases e : lessB q p with
  | false => rfl
  | true =>
    rw [lessB_iff hp hq] at h
    rw [lessB_iff hq hp, lexN_flip] at e
    omega
theorem lessB_same {p q : Pt} (hp : PtOk p) (hq : PtOk q) : (lessB p q = false ∧ lessB q p = false) ↔ p = q := by
  rw [← Bool.not_eq_true, ← Bool.not_eq_true, lessB_iff hp hq, lessB_iff hq hp, lexN_flip q.tx p.tx]
  rw [lexN_flip p.tx q.tx]
  constructor
  · rintro ⟨h1, h2⟩
    have h3 : lexN p.tx q.tx = 0 := by omega
    have h4 := lexN_zero h3
    obtain ⟨t, n⟩ := p
    obtain ⟨t', n'⟩ := q
    simp only at h1 h2 h3 h4
    subst h4
    have : n = n' := by omega
    rw [this]
  · intro h
    subst h
    rw [lexN_self]
    omega
theorem lessB_trans {p q r : Pt} (hp : PtOk p) (hq : PtOk q) (hr : PtOk r) (h1 : lessB p q = true) (h2 : lessB q r = true) : lessB p r = true := by
  rw [lessB_iff hp hq] at h1
  rw [lessB_iff hq hr] at h2
  rw [lessB_iff hp hr]
  rcases h1 with h1 | ⟨h1, h3⟩
  · rcases h2 with h2 | ⟨h2, h4⟩
    · exact .inl (lexN_trans h1 h2)
    · rw [← lexN_zero h2]; exact .inl h1
  · rw [lexN_zero h1]
    rcases h2 with h2 | ⟨h2, h4⟩
    · exact .inl h2
    · exact .inr ⟨h2, by omega⟩
noncomputable def F105 : Eng AA := EF prog L105
theorem F105_eq : F105 = EF prog L105 := by
  unfold F105
  rfl
end Go.Proofs.YtcglahfmnoghjaaGreatDoor

/-! Which points transactions spend, whether they clash; the document's answers; TxPoints: what is said of them. Conditions: none. -/
namespace Go.Proofs.YtcglahfmnoghjaaGreatDoor
open Go Go.Eng Go.Proofs.Tryz

/-! ## Contracts from beside -/
noncomputable def L140 : List (Nat × SpecT AA) := (15, tLent lessLS lessGet) :: L99
theorem Known.pick {P : Program} {l : List (Nat × SpecT AA)} (k : Known P l) (n : Nat) {T : SpecT AA} (h : ttOf l n = T) : Meets P CC GG (qfA n) n T := by
  subst h
  exact k.ok n
theorem Known.over {P : Program} {l l' : List (Nat × SpecT AA)} (k : Known P l) (n : Nat) (T : SpecT AA) (h : ttOf l n = T) (k' : Known P l') : Known P ((n, T) :: l') := .add (k.pick n h) k'
theorem less_at : ttOf L105 15 = tLent lessLS lessGet := by
  unfold L105
  rfl
theorem known140 : Known prog L140 := by
  unfold L140
  exact known105.over _ _ less_at known99
noncomputable def L141 : List (Nat × SpecT AA) := (25, tLent rPutLS rPutGet) :: L140
theorem put_at : ttOf L75 25 = tLent rPutLS rPutGet := by
  unfold L75
  rfl
theorem known141 : Known prog L141 := by
  unfold L141
  exact known75.over _ _ put_at known140
/-! ## Spends -/
def hitB (p : Pt) (x : TIn) : Bool := x.tx == p.tx && (x.n == p.n && true)
def ptAt (sh : List (SO AA)) : SV AA → Option Pt
  | .ptr i 0 => match nth sh i with
    | some (.cells _ cs) => decPt (.agg cs)
    | _ => none
  | _ => none
structure SpX where
  p : Pt
  x : TIn
def spend1LS : LS AA where
  X := SpX
  pre := fun _ => True
  args := fun x => [.agg (tinSL x.x), .ptr 0 0]
  hin := fun x => [.cells 38 (encPt x.p)]
  res := fun x => [.sb 0 (hitB x.p x.x)]
  hout := fun x => [.cells 38 (encPt x.p)]
def spend1Get (args : List (SV AA)) (sh : List (SO AA)) : Option SpX := match args with
  | [x, p] => match decTin sh x, ptAt sh p with
    | some x, some p => some ⟨p, x⟩
    | _, _ => none
  | _ => none
noncomputable def F141 : Eng AA := EF prog L141
theorem F141_eq : F141 = EF prog L141 := by
  unfold F141
  rfl
noncomputable def L142 : List (Nat × SpecT AA) := (39, tLent spend1LS spend1Get) :: L141
noncomputable def F142 : Eng AA := EF prog L142
theorem F142_eq : F142 = EF prog L142 := by
  unfold F142
  rfl
/-- Where the first input is of which something holds, or -1. -/
def qIdx (q : TIn → Bool) : List TIn → Nat → Int
  | [], _ => -1
  | x :: l, n => if q x = true then n else qIdx q l (n + 1)
structure SpL where
  p : Pt
  l : List TIn
def spendIdxLS : LS AA where
  X := SpL
  pre := fun _ => True
  args := fun x => [.rseq 87 (show List (AA 87) from x.l), .fn (.func 39) .nil (.cell (.ptr 0 0) .nil)]
  hin := fun x => [.cells 38 (encPt x.p)]
  res := fun x => [.int .i64 (qIdx (hitB x.p) x.l 0)]
  hout := fun x => [.cells 38 (encPt x.p)]
def spendIdxGet (args : List (SV AA)) (sh : List (SO AA)) : Option SpL := match args with
  | [s, .fn (.func _) .nil (.cell p .nil)] => match seqOfS 87 sh s, ptAt sh p with
    | some l, some p => some ⟨p, l⟩
    | _, _ => none
  | _ => none
def qIdxAnn (q : TIn → Bool) (l : List TIn) : Anns AA := fun _ _ _ => some {
  X := Nat
  inv := fun k => k ≤ l.length ∧ l.length ≤ 9223372036854775807 ∧ qIdx q l 0 = qIdx q (l.drop k) k
  meas := fun k => l.length - k
  slots := fun k => [(8, .int .i64 k)]
  heap := fun _ => [] }
def spendIdxAnn (x : SpL) : Anns AA := qIdxAnn (hitB x.p) x.l
noncomputable def L143 : List (Nat × SpecT AA) := (86, tLent spendIdxLS spendIdxGet) :: L142
noncomputable def F143 : Eng AA := EF prog L143
theorem F143_eq : F143 = EF prog L143 := by
  unfold F143
  rfl
def spendAnyLS : LS AA where
  X := SpL
  pre := fun _ => True
  args := fun x => [.rseq 87 (show List (AA 87) from x.l), .fn (.func 39) .nil (.cell (.ptr 0 0) .nil)]
  hin := fun x => [.cells 38 (encPt x.p)]
  res := fun x => [.sb 0 (decide (qIdx (hitB x.p) x.l 0 ≥ 0))]
  hout := fun x => [.cells 38 (encPt x.p)]
noncomputable def L144 : List (Nat × SpecT AA) := (38, tLent spendAnyLS spendIdxGet) :: L143
noncomputable def F144 : Eng AA := EF prog L144
theorem F144_eq : F144 = EF prog L144 := by
  unfold F144
  rfl
def spendsB (p : Pt) (l : List TIn) : Bool := decide (qIdx (hitB p) l 0 ≥ 0)
structure SpT where
  t : TxD
  p : Pt
def spendsLS : LS AA where
  X := SpT
  pre := fun _ => True
  args := fun x => [.agg (txSL x.t), .agg (encPt x.p)]
  hin := fun _ => []
  res := fun x => [.sb 0 (spendsB x.p x.t.ins)]
  hout := fun _ => []
def spendsGet (args : List (SV AA)) (sh : List (SO AA)) : Option SpT := match args with
  | [t, p] => match decTx sh t, decPt p with
    | some t, some p => some ⟨t, p⟩
    | _, _ => none
  | _ => none
noncomputable def L145 : List (Nat × SpecT AA) := (11, tLent spendsLS spendsGet) :: L144
noncomputable def F145 : Eng AA := EF prog L145
theorem F145_eq : F145 = EF prog L145 := by
  unfold F145
  rfl
/-! ## Clash -/
structure ClX where
  t : TxD
  x : TIn
def txAt (sh : List (SO AA)) : SV AA → Option TxD
  | .ptr i 0 => match nth sh i with
    | some (.cells _ cs) => decTx sh (.agg (rslL sh cs))
    | _ => none
  | _ => none
def clash1LS : LS AA where
  X := ClX
  pre := fun _ => True
  args := fun x => [.agg (tinSL x.x), .ptr 0 0]
  hin := fun x => [.cells 36 (txSL x.t)]
  res := fun x => [.sb 0 (spendsB (ptOf x.x) x.t.ins)]
  hout := fun x => [.cells 36 (txSL x.t)]
def clash1Get (args : List (SV AA)) (sh : List (SO AA)) : Option ClX := match args with
  | [x, t] => match decTin sh x, txAt sh t with
    | some x, some t => some ⟨t, x⟩
    | _, _ => none
  | _ => none
noncomputable def L146 : List (Nat × SpecT AA) := (40, tLent clash1LS clash1Get) :: L145
noncomputable def F146 : Eng AA := EF prog L146
theorem F146_eq : F146 = EF prog L146 := by
  unfold F146
  rfl
structure ClL where
  t : TxD
  l : List TIn
def clQ (t : TxD) (x : TIn) : Bool := spendsB (ptOf x) t.ins
def clashIdxLS : LS AA where
  X := ClL
  pre := fun _ => True
  args := fun x => [.rseq 87 (show List (AA 87) from x.l), .fn (.func 40) .nil (.cell (.ptr 0 0) .nil)]
  hin := fun x => [.cells 36 (txSL x.t)]
  res := fun x => [.int .i64 (qIdx (clQ x.t) x.l 0)]
  hout := fun x => [.cells 36 (txSL x.t)]
def clashIdxGet (args : List (SV AA)) (sh : List (SO AA)) : Option ClL := match args with
  | [s, .fn (.func _) .nil (.cell t .nil)] => match seqOfS 87 sh s, txAt sh t with
    | some l, some t => some ⟨t, l⟩
    | _, _ => none
  | _ => none
def clashIdxAnn (x : ClL) : Anns AA := qIdxAnn (clQ x.t) x.l
noncomputable def L147 : List (Nat × SpecT AA) := (86, tLent clashIdxLS clashIdxGet) :: L146
noncomputable def F147 : Eng AA := EF prog L147
theorem F147_eq : F147 = EF prog L147 := by
  unfold F147
  rfl
def clashAnyLS : LS AA where
  X := ClL
  pre := fun _ => True
  args := fun x => [.rseq 87 (show List (AA 87) from x.l), .fn (.func 40) .nil (.cell (.ptr 0 0) .nil)]
  hin := fun x => [.cells 36 (txSL x.t)]
  res := fun x => [.sb 0 (decide (qIdx (clQ x.t) x.l 0 ≥ 0))]
  hout := fun x => [.cells 36 (txSL x.t)]
noncomputable def L148 : List (Nat × SpecT AA) := (38, tLent clashAnyLS clashIdxGet) :: L147
noncomputable def F148 : Eng AA := EF prog L148
theorem F148_eq : F148 = EF prog L148 := by
  unfold F148
  rfl
structure TxTx where
  t : TxD
  u : TxD
def clashB (t u : TxD) : Bool := decide (qIdx (clQ u) t.ins 0 ≥ 0)
def clashLS : LS AA where
  X := TxTx
  pre := fun _ => True
  args := fun x => [.agg (txSL x.t), .agg (txSL x.u)]
  hin := fun _ => []
  res := fun x => [.sb 0 (clashB x.t x.u)]
  hout := fun _ => []
def clashGet (args : List (SV AA)) (sh : List (SO AA)) : Option TxTx := match args with
  | [t, u] => match decTx sh t, decTx sh u with
    | some t, some u => some ⟨t, u⟩
    | _, _ => none
  | _ => none
noncomputable def L149 : List (Nat × SpecT AA) := (13, tLent clashLS clashGet) :: L148
noncomputable def F149 : Eng AA := EF prog L149
theorem F149_eq : F149 = EF prog L149 := by
  unfold F149
  rfl
/-! ## The document's -/
def rspendsLS : LS AA where
  X := SpT
  pre := fun _ => True
  args := fun x => [.agg (txRSL x.t), .agg (encPt x.p)]
  hin := fun _ => []
  res := fun x => [.sb 0 (spendsB x.p x.t.ins)]
  hout := fun _ => []
def rspendsGet (args : List (SV AA)) (sh : List (SO AA)) : Option SpT := match args with
  | [t, p] => match decTxR sh t, decPt p with
    | some t, some p => some ⟨t, p⟩
    | _, _ => none
  | _ => none
def rspendsAnn (x : SpT) : Anns AA := fun _ _ _ => some {
  X := Nat
  inv := fun k => k ≤ x.t.ins.length ∧ qIdx (hitB x.p) x.t.ins 0 = qIdx (hitB x.p) (x.t.ins.drop k) k
  meas := fun k => x.t.ins.length - k
  slots := fun k => [(5, .int .i64 k)]
  heap := fun _ => [] }
noncomputable def L150 : List (Nat × SpecT AA) := (12, tLent rspendsLS rspendsGet) :: L149
noncomputable def F150 : Eng AA := EF prog L150
theorem F150_eq : F150 = EF prog L150 := by
  unfold F150
  rfl
def rclashLS : LS AA where
  X := TxTx
  pre := fun _ => True
  args := fun x => [.agg (txRSL x.t), .agg (txRSL x.u)]
  hin := fun _ => []
  res := fun x => [.sb 0 (clashB x.t x.u)]
  hout := fun _ => []
def rclashGet (args : List (SV AA)) (sh : List (SO AA)) : Option TxTx := match args with
  | [t, u] => match decTxR sh t, decTxR sh u with
    | some t, some u => some ⟨t, u⟩
    | _, _ => none
  | _ => none
def rclashAnn (x : TxTx) : Anns AA := fun _ _ _ => some {
  X := Nat
  inv := fun k => k ≤ x.t.ins.length ∧ qIdx (clQ x.u) x.t.ins 0 = qIdx (clQ x.u) (x.t.ins.drop k) k
  meas := fun k => x.t.ins.length - k
  slots := fun k => [(5, .int .i64 k)]
  heap := fun _ => [] }
noncomputable def L151 : List (Nat × SpecT AA) := (14, tLent rclashLS rclashGet) :: L150
noncomputable def F151 : Eng AA := EF prog L151
theorem F151_eq : F151 = EF prog L151 := by
  unfold F151
  rfl
structure PP where
  p : Pt
  q : Pt
structure PP.Ok (x : PP) : Prop where
  p : PtOk x.p
  q : PtOk x.q
def rlessLS : LS AA where
  X := PP
  pre := PP.Ok
  args := fun x => [.agg (encPt x.p), .agg (encPt x.q)]
  hin := fun _ => []
  res := fun x => [.sb 0 (lessB x.p x.q)]
  hout := fun _ => []
def rlessGet (args : List (SV AA)) (_ : List (SO AA)) : Option PP := match args with
  | [a, b] => match decPt a, decPt b with
    | some a, some b => some ⟨a, b⟩
    | _, _ => none
  | _ => none
def rlessAnn (x : PP) : Anns AA := fun _ _ _ => some {
  X := Nat
  inv := fun k => k ≤ 32 ∧ x.p.tx.take k = x.q.tx.take k
  meas := fun k => 32 - k
  slots := fun k => [(5, .int .i64 k)]
  heap := fun _ => [] }
noncomputable def L152 : List (Nat × SpecT AA) := (16, tLent rlessLS rlessGet) :: L151
noncomputable def F152 : Eng AA := EF prog L152
theorem F152_eq : F152 = EF prog L152 := by
  unfold F152
  rfl
def rBytesLS : LS AA where
  X := BB
  pre := BB.Ok
  args := fun x => [.rints .u8 x.xs, .rints .u8 x.b]
  hin := fun _ => []
  res := fun _ => [.vec 0]
  hout := fun x => [.ivec 5 .u8 (x.xs ++ bytesB x.b)]
def rBytesGet (args : List (SV AA)) (sh : List (SO AA)) : Option BB := match args with
  | [s, t] => match gI .u8 sh s, gI .u8 sh t with
    | some a, some b => some ⟨a, b⟩
    | _, _ => none
  | _ => none
def rBytesAnn (x : BB) : Anns AA := fun _ _ _ => some {
  X := Nat
  inv := fun n => n ≤ x.b.length
  meas := fun n => x.b.length - n
  slots := fun n => [(6, .int .i64 n), (5, .vec 1)]
  heap := fun _ => [(0, .dead)]
  more := fun n => [.ivec 5 .u8 (x.xs ++ stuffB (x.b.take n))] }
noncomputable def L153 : List (Nat × SpecT AA) := (90, tLent rBytesLS rBytesGet) :: L152
noncomputable def F153 : Eng AA := EF prog L153
theorem F153_eq : F153 = EF prog L153 := by
  unfold F153
  rfl
structure EncR (t : TxD) : Prop extends TxOk t where
  s : ∀ y, y ∈ t.ins → y.secret.length ≤ 2000000
  sum : sumS t.ins ≤ 2000000
def secR (s : Bool) (x : TIn) : List Int := bif s then x.secret else []
def rputTxLS (s : Bool) : LS AA where
  X := TxD
  pre := EncR
  args := fun t => [.agg (txRSL t), .bl s]
  hin := fun _ => []
  res := fun t => [.rints .u8 (putTx (secR s) t)]
  hout := fun _ => []
def rputTxGet (s : Bool) (args : List (SV AA)) (sh : List (SO AA)) : Option TxD := match args with
  | [t, .bl b] => bif b == s then decTxR sh t else none
  | _ => none
def rputTxAnn (s : Bool) (x : TxD) : Anns AA := fun k ts sh => match nth ts 5 with
  | some v => match gI .u8 sh v with
    | some xs => if k = 4 then some {
        X := Nat
        inv := fun n => n ≤ x.ins.length
        meas := fun n => x.ins.length - n
        slots := fun n => [(6, .int .i64 n), (5, .rints .u8 (xs ++ insB (secR s) (x.ins.take n)))]
        heap := fun _ => deadOf v }
      else some {
        X := Nat
        inv := fun n => n ≤ x.outs.length
        meas := fun n => x.outs.length - n
        slots := fun n => [(8, .int .i64 n), (5, .rints .u8 (xs ++ toutsB (x.outs.take n)))]
        heap := fun _ => deadOf v }
    | none => none
  | none => none
noncomputable def L154 : List (Nat × SpecT AA) := (45, tLent (rputTxLS false) (rputTxGet false)) :: L153
noncomputable def F154 : Eng AA := EF prog L154
theorem F154_eq : F154 = EF prog L154 := by
  unfold F154
  rfl
noncomputable def rIdLS : LS AA where
  X := TxD
  pre := EncR
  args := fun t => [.agg (txRSL t)]
  hin := fun _ => []
  res := fun t => [hashV (idB t)]
  hout := fun _ => []
noncomputable def L155 : List (Nat × SpecT AA) := (18, tLent rIdLS txRGet) :: L154
noncomputable def F155 : Eng AA := EF prog L155
theorem F155_eq : F155 = EF prog L155 := by
  unfold F155
  rfl
/-! ## The law -/
structure PtsX where
  t : TxD
  u : TxD
  p : Pt
  q : Pt
structure PtsX.Ok (x : PtsX) : Prop where
  t : EncR x.t
  st : Small x.t
  u : EncR x.u
  su : Small x.u
  p : PtOk x.p
  q : PtOk x.q
def pointsLS : LS AA where
  X := PtsX
  pre := PtsX.Ok
  args := fun x => [.agg (txRSL x.t), .agg (txRSL x.u), .agg (.run .u8 32 x.p.tx (.cell (.int .i64 x.p.n) (.run .u8 32 x.q.tx (.cell (.int .i64 x.q.n) .nil))))]
  hin := fun _ => []
  res := fun _ => [.sb 0 true]
  hout := fun _ => []
end Go.Proofs.YtcglahfmnoghjaaGreatDoor

/-! Points that are spent, clashes, the document's answers: the walks. Conditions: none. -/
namespace Go.Proofs.YtcglahfmnoghjaaGreatDoor
open Go Go.Eng Go.Proofs.Tryz

def spend1VC : Prop := ∀ (x : SpX), True → hitB x.p x.x = (x.x.tx == x.p.tx && (x.x.n == x.p.n && true)) ∧ ((x.p.tx = x.p.tx ∧ x.p.n = x.p.n ∧ True) ∧ True) ∧ True
theorem spend1_eq : spend1VC = fnS F141 f39 (bodyOf f39) spend1LS noAnn := by kernel_rfl
theorem spend1_vc : spend1VC := fun _ _ => ⟨rfl, ⟨⟨rfl, rfl, trivial⟩, trivial⟩, trivial⟩
theorem spend1_ok : Fits F141 f39 (bodyOf f39) spend1LS noAnn := by
  constructor
  rw [← spend1_eq]
  exact spend1_vc
theorem spend1_has : Has prog 39 f39 (bodyOf f39) := ⟨by kernel_rfl, by kernel_rfl, by kernel_rfl⟩
theorem known142 : Known prog L142 := by
  unfold L142
  exact known141.lent mixed spend1_has F141_eq spend1_ok (fun _ _ => Nat.le_refl _) (fun h => by cases h)
theorem qIdx_at {q : TIn → Bool} {l : List TIn} {k : Nat} {y : TIn} (h : l[k]? = some y) : qIdx q (l.drop k) k = if q y = true then (k : Int) else qIdx q (l.drop (k + 1)) (k + 1) := by
  rw [dropAt (α := TIn) (y := y) h]
  rfl
theorem qIdx_ge {q : TIn → Bool} : ∀ (l : List TIn) (k : Nat), qIdx q l k = -1 ∨ 0 ≤ qIdx q l k
  | [], _ => .inl rfl
  | x :: l, k => by
    simp only [qIdx]
    split
    · exact .inr (by omega)
    · exact qIdx_ge l (k + 1)
def spendIdxVC : Prop := ∀ (x : SpL), True → (↑x.l.length : Int) ≤ (9223372036854775807 : Int) → (∃ x_1, (x_1 ≤ x.l.length ∧ x.l.length ≤ (9223372036854775807 : Nat) ∧ qIdx
  (hitB x.p) x.l (0 : Nat) = qIdx (hitB x.p) (List.drop x_1 x.l) x_1) ∧ (↑x_1 : Int) = (0 : Int) ∧ ((x.p.tx = x.p.tx ∧ x.p.n = x.p.n ∧ True) ∧ True) ∧
  True) ∧ ∀ (x_1 : Nat), x_1 ≤ x.l.length ∧ x.l.length ≤ (9223372036854775807 : Nat) ∧ qIdx (hitB x.p) x.l (0 : Nat) = qIdx (hitB x.p) (List.drop x_1
  x.l) x_1 → (decide ((↑x_1 : Int) < (↑x.l.length : Int)) = true → (0 : Int) ≤ (↑x_1 : Int) ∧ (↑x_1 : Int) < (↑x.l.length : Int) ∧ ∀ (y : AA (87 : Nat)), x.l[(↑x_1 : Int).toNat]? = some y → ((y.tx = y.tx ∧ y.n = y.n ∧ y.branch = y.branch ∧ y.secret = y.secret ∧ True) ∧ True) ∧
  ((x.p.tx = x.p.tx ∧ x.p.n = x.p.n ∧ True) ∧ True) ∧ True ∧ (hitB x.p y = true → qIdx (hitB x.p) x.l (0 : Nat) = (↑x_1 : Int) ∧ ((x.p.tx = x.p.tx ∧
  x.p.n = x.p.n ∧ True) ∧ True) ∧ True) ∧ (hitB x.p y = false → inI64 ((↑x_1 : Int) + (1 : Int)) ∧ ∃ y, (y ≤ x.l.length ∧ x.l.length ≤
  (9223372036854775807 : Nat) ∧ qIdx (hitB x.p) x.l (0 : Nat) = qIdx (hitB x.p) (List.drop y x.l) y) ∧ x.l.length - y < x.l.length - x_1 ∧ (↑y : Int) =
  (↑x_1 : Int) + (1 : Int) ∧ ((x.p.tx = x.p.tx ∧ x.p.n = x.p.n ∧ True) ∧ True) ∧ True)) ∧ (decide ((↑x_1 : Int) < (↑x.l.length : Int)) = false → qIdx
  (hitB x.p) x.l (0 : Nat) = (-1 : Int) ∧ ((x.p.tx = x.p.tx ∧ x.p.n = x.p.n ∧ True) ∧ True) ∧ True)
theorem spendIdx_eq : spendIdxVC = fnS F142 f86 (bodyOf f86) spendIdxLS spendIdxAnn := by kernel_rfl
theorem spendIdx_vc : spendIdxVC := by
  intro x _ hl
  refine ⟨⟨0, ⟨Nat.zero_le _, by omega, rfl⟩, rfl, ⟨⟨rfl, rfl, trivial⟩, trivial⟩, trivial⟩, fun k hk => ⟨fun h => ?_, fun h => ?_⟩⟩
  · simp only [decide_eq_true_eq] at h
    have hk' : k < x.l.length := by omega
    refine ⟨by omega, h, fun y hy => ⟨⟨⟨rfl, rfl, rfl, rfl, trivial⟩, trivial⟩, ⟨⟨rfl, rfl, trivial⟩, trivial⟩, trivial, fun h1 => ⟨?_, ⟨⟨rfl, rfl, trivial⟩, trivial⟩, trivial⟩, fun h1 => ⟨by unfold inI64; omega, k + 1, ⟨hk', hk.2.1, ?_⟩, by omega, by omega, ⟨⟨rfl, rfl, trivial⟩, trivial⟩, trivial⟩⟩⟩
    · have hy' : x.l[k]? = some y := hy
      rw [hk.2.2, qIdx_at hy', if_pos (show hitB x.p y = true from h1)]
    · have hy' : x.l[k]? = some y := hy
      rw [hk.2.2, qIdx_at hy', if_neg (fun h2 => by
        have h1' : hitB x.p y = false := h1
        rw [show hitB x.p y = true from h2] at h1'
        cases h1')]
  · simp only [decide_eq_false_iff_not] at h
    refine ⟨?_, ⟨⟨rfl, rfl, trivial⟩, trivial⟩, trivial⟩
    rw [hk.2.2, List.drop_of_length_le (by omega)]
    rfl
theorem spendIdx_ok : Fits F142 f86 (bodyOf f86) spendIdxLS spendIdxAnn := by
  constructor
  rw [← spendIdx_eq]
  exact spendIdx_vc
theorem spendIdx_has : Has prog 86 f86 (bodyOf f86) := ⟨by kernel_rfl, by kernel_rfl, by kernel_rfl⟩
theorem known143 : Known prog L143 := by
  unfold L143
  exact known142.lent mixed spendIdx_has F142_eq spendIdx_ok (fun _ _ => Nat.le_refl _) (fun h => by cases h)
def spendAnyVC : Prop := ∀ (x : SpL), True → (x.l = x.l ∧ Fn.func (39 : FuncId) = Fn.func (39 : FuncId) ∧ True ∧ True ∧ True) ∧ ((x.p.tx
  = x.p.tx ∧ x.p.n = x.p.n ∧ True) ∧ True) ∧ True ∧ decide (qIdx (hitB x.p) x.l (0 : Nat) ≥ (0 : Int)) = decide (qIdx (hitB x.p) x.l (0 : Nat) ≥ (0 :
  Int)) ∧ ((x.p.tx = x.p.tx ∧ x.p.n = x.p.n ∧ True) ∧ True) ∧ True
theorem spendAny_eq : spendAnyVC = fnS F143 f38 (bodyOf f38) spendAnyLS noAnn := by kernel_rfl
theorem spendAny_vc : spendAnyVC := fun _ _ => ⟨⟨rfl, rfl, trivial, trivial, trivial⟩, ⟨⟨rfl, rfl, trivial⟩, trivial⟩, trivial, rfl, ⟨⟨rfl, rfl, trivial⟩, trivial⟩, trivial⟩
theorem spendAny_ok : Fits F143 f38 (bodyOf f38) spendAnyLS noAnn := by
  constructor
  rw [← spendAny_eq]
  exact spendAny_vc
theorem spendAny_has : Has prog 38 f38 (bodyOf f38) := ⟨by kernel_rfl, by kernel_rfl, by kernel_rfl⟩
theorem known144 : Known prog L144 := by
  unfold L144
  exact known143.lent mixed spendAny_has F143_eq spendAny_ok (fun _ _ => Nat.le_refl _) (fun h => by cases h)
def spendsVC : Prop := ∀ (x : SpT), True → (x.t.ins = x.t.ins ∧ Fn.func (39 : FuncId) = Fn.func (39 : Nat) ∧ True ∧ True ∧ True) ∧
  ((x.p.tx = x.p.tx ∧ x.p.n = x.p.n ∧ True) ∧ True) ∧ True ∧ spendsB x.p x.t.ins = decide (qIdx (hitB x.p) x.t.ins (0 : Nat) ≥ (0 : Int)) ∧ True ∧ True
theorem spends_eq : spendsVC = fnS F144 f11 (bodyOf f11) spendsLS noAnn := by kernel_rfl
theorem spends_vc : spendsVC := fun _ _ => ⟨⟨rfl, rfl, trivial, trivial, trivial⟩, ⟨⟨rfl, rfl, trivial⟩, trivial⟩, trivial, rfl, trivial, trivial⟩
theorem spends_ok : Fits F144 f11 (bodyOf f11) spendsLS noAnn := by
  constructor
  rw [← spends_eq]
  exact spends_vc
theorem spends_has : Has prog 11 f11 (bodyOf f11) := ⟨by kernel_rfl, by kernel_rfl, by kernel_rfl⟩
theorem known145 : Known prog L145 := by
  unfold L145
  exact known144.lent mixed spends_has F144_eq spends_ok (fun _ _ => Nat.le_refl _) (fun _ _ => rfl)
def clash1VC : Prop := ∀ (x : ClX), True → ((x.t.lock = x.t.lock ∧ x.t.ins = x.t.ins ∧ x.t.outs = x.t.outs ∧ True) ∧ x.x.tx = x.x.tx ∧ x.x.n = x.x.n ∧ True) ∧ True ∧ True ∧
  spendsB (ptOf x.x) x.t.ins = spendsB (Pt.mk x.x.tx x.x.n) x.t.ins ∧ ((x.t.lock = x.t.lock ∧ x.t.ins = x.t.ins ∧ x.t.outs = x.t.outs ∧ True) ∧ True) ∧ True
theorem clash1_eq : clash1VC = fnS F145 f40 (bodyOf f40) clash1LS noAnn := by kernel_rfl
theorem clash1_vc : clash1VC := fun _ _ => ⟨⟨⟨rfl, rfl, rfl, trivial⟩, rfl, rfl, trivial⟩, trivial, trivial, rfl, ⟨⟨rfl, rfl, rfl, trivial⟩, trivial⟩, trivial⟩
theorem clash1_ok : Fits F145 f40 (bodyOf f40) clash1LS noAnn := by
  constructor
  rw [← clash1_eq]
  exact clash1_vc
theorem clash1_has : Has prog 40 f40 (bodyOf f40) := ⟨by kernel_rfl, by kernel_rfl, by kernel_rfl⟩
theorem known146 : Known prog L146 := by
  unfold L146
  exact known145.lent mixed clash1_has F145_eq clash1_ok (fun _ _ => Nat.le_refl _) (fun h => by cases h)
def clashIdxVC : Prop := ∀ (x : ClL), True → (↑x.l.length : Int) ≤ (9223372036854775807 : Int) → (∃ x_1, (x_1 ≤ x.l.length ∧ x.l.length ≤ (9223372036854775807 : Nat) ∧ qIdx
  (clQ x.t) x.l (0 : Nat) = qIdx (clQ x.t) (List.drop x_1 x.l) x_1) ∧ (↑x_1 : Int) = (0 : Int) ∧ ((x.t.lock = x.t.lock ∧ x.t.ins = x.t.ins ∧ x.t.outs =
  x.t.outs ∧ True) ∧ True) ∧ True) ∧ ∀ (x_1 : Nat), x_1 ≤ x.l.length ∧ x.l.length ≤ (9223372036854775807 : Nat) ∧ qIdx (clQ x.t) x.l (0 : Nat) = qIdx
  (clQ x.t) (List.drop x_1 x.l) x_1 → (decide ((↑x_1 : Int) < (↑x.l.length : Int)) = true → (0 : Int) ≤ (↑x_1 : Int) ∧ (↑x_1 : Int) < (↑x.l.length : Int)
  ∧ ∀ (y : AA (87 : Nat)), x.l[(↑x_1 : Int).toNat]? = some y → ((y.tx = y.tx ∧ y.n = y.n ∧ y.branch = y.branch ∧ y.secret =
  y.secret ∧ True) ∧ True) ∧ ((x.t.lock = x.t.lock ∧ x.t.ins = x.t.ins ∧ x.t.outs = x.t.outs ∧ True) ∧ True) ∧ True ∧ (spendsB (ptOf y) x.t.ins = true →
  qIdx (clQ x.t) x.l (0 : Nat) = (↑x_1 : Int) ∧ ((x.t.lock = x.t.lock ∧ x.t.ins = x.t.ins ∧ x.t.outs = x.t.outs ∧ True) ∧ True) ∧ True) ∧ (spendsB (ptOf
  y) x.t.ins = false → inI64 ((↑x_1 : Int) + (1 : Int)) ∧ ∃ y, (y ≤ x.l.length ∧ x.l.length ≤ (9223372036854775807 : Nat) ∧ qIdx (clQ x.t) x.l (0 : Nat)
  = qIdx (clQ x.t) (List.drop y x.l) y) ∧ x.l.length - y < x.l.length - x_1 ∧ (↑y : Int) = (↑x_1 : Int) + (1 : Int) ∧ ((x.t.lock = x.t.lock ∧ x.t.ins =
  x.t.ins ∧ x.t.outs = x.t.outs ∧ True) ∧ True) ∧ True)) ∧ (decide ((↑x_1 : Int) < (↑x.l.length : Int)) = false → qIdx (clQ x.t) x.l (0 : Nat) = (-1 :
  Int) ∧ ((x.t.lock = x.t.lock ∧ x.t.ins = x.t.ins ∧ x.t.outs = x.t.outs ∧ True) ∧ True) ∧ True)
theorem clashIdx_eq : clashIdxVC = fnS F146 f86 (bodyOf f86) clashIdxLS clashIdxAnn := by kernel_rfl
theorem clashIdx_vc : clashIdxVC := by
  intro x _ hl
  refine ⟨⟨0, ⟨Nat.zero_le _, by omega, rfl⟩, rfl, ⟨⟨rfl, rfl, rfl, trivial⟩, trivial⟩, trivial⟩, fun k hk => ⟨fun h => ?_, fun h => ?_⟩⟩
  · simp only [decide_eq_true_eq] at h
    have hk' : k < x.l.length := by omega
    refine ⟨by omega, h, fun y hy => ⟨⟨⟨rfl, rfl, rfl, rfl, trivial⟩, trivial⟩, ⟨⟨rfl, rfl, rfl, trivial⟩, trivial⟩, trivial, fun h1 => ⟨?_, ⟨⟨rfl, rfl, rfl, trivial⟩, trivial⟩, trivial⟩, fun h1 => ⟨by unfold inI64; omega, k + 1, ⟨hk', hk.2.1, ?_⟩, by omega, by omega, ⟨⟨rfl, rfl, rfl, trivial⟩, trivial⟩, trivial⟩⟩⟩
    · have hy' : x.l[k]? = some y := hy
      rw [hk.2.2, qIdx_at hy', if_pos (show clQ x.t y = true from h1)]
    · have hy' : x.l[k]? = some y := hy
      rw [hk.2.2, qIdx_at hy', if_neg (fun h2 => by
        have h1' : clQ x.t y = false := h1
        rw [show clQ x.t y = true from h2] at h1'
        cases h1')]
  · simp only [decide_eq_false_iff_not] at h
    refine ⟨?_, ⟨⟨rfl, rfl, rfl, trivial⟩, trivial⟩, trivial⟩
    rw [hk.2.2, List.drop_of_length_le (by omega)]
    rfl
theorem clashIdx_ok : Fits F146 f86 (bodyOf f86) clashIdxLS clashIdxAnn := by
  constructor
  rw [← clashIdx_eq]
  exact clashIdx_vc
theorem clashIdx_has : Has prog 86 f86 (bodyOf f86) := ⟨by kernel_rfl, by kernel_rfl, by kernel_rfl⟩
theorem known147 : Known prog L147 := by
  unfold L147
  exact known146.lent mixed clashIdx_has F146_eq clashIdx_ok (fun _ _ => Nat.le_refl _) (fun h => by cases h)
def clashAnyVC : Prop := ∀ (x : ClL), True → (x.l = x.l ∧ Fn.func (40 : FuncId) = Fn.func (40 : FuncId) ∧ True ∧ True ∧ True) ∧ ((x.t.lock
  = x.t.lock ∧ x.t.ins = x.t.ins ∧ x.t.outs = x.t.outs ∧ True) ∧ True) ∧ True ∧ decide (qIdx (clQ x.t) x.l (0 : Nat) ≥ (0 : Int)) = decide (qIdx (clQ
  x.t) x.l (0 : Nat) ≥ (0 : Int)) ∧ ((x.t.lock = x.t.lock ∧ x.t.ins = x.t.ins ∧ x.t.outs = x.t.outs ∧ True) ∧ True) ∧ True
theorem clashAny_eq : clashAnyVC = fnS F147 f38 (bodyOf f38) clashAnyLS noAnn := by kernel_rfl
theorem clashAny_vc : clashAnyVC := fun _ _ => ⟨⟨rfl, rfl, trivial, trivial, trivial⟩, ⟨⟨rfl, rfl, rfl, trivial⟩, trivial⟩, trivial, rfl, ⟨⟨rfl, rfl, rfl, trivial⟩, trivial⟩, trivial⟩
theorem clashAny_ok : Fits F147 f38 (bodyOf f38) clashAnyLS noAnn := by
  constructor
  rw [← clashAny_eq]
  exact clashAny_vc
theorem clashAny_has : Has prog 38 f38 (bodyOf f38) := ⟨by kernel_rfl, by kernel_rfl, by kernel_rfl⟩
theorem known148 : Known prog L148 := by
  unfold L148
  exact known147.lent mixed clashAny_has F147_eq clashAny_ok (fun _ _ => Nat.le_refl _) (fun h => by cases h)
def clashVC : Prop := ∀ (x : TxTx), True → (x.t.ins = x.t.ins ∧ Fn.func (40 : FuncId) = Fn.func (40 : Nat) ∧ True ∧ True ∧ True) ∧
  ((x.u.lock = x.u.lock ∧ x.u.ins = x.u.ins ∧ x.u.outs = x.u.outs ∧ True) ∧ True) ∧ True ∧ clashB x.t x.u = decide (qIdx (clQ x.u) x.t.ins (0 : Nat) ≥ (0
  : Int)) ∧ True ∧ True
theorem clash_eq : clashVC = fnS F148 f13 (bodyOf f13) clashLS noAnn := by kernel_rfl
theorem clash_vc : clashVC := fun _ _ => ⟨⟨rfl, rfl, trivial, trivial, trivial⟩, ⟨⟨rfl, rfl, rfl, trivial⟩, trivial⟩, trivial, rfl, trivial, trivial⟩
theorem clash_ok : Fits F148 f13 (bodyOf f13) clashLS noAnn := by
  constructor
  rw [← clash_eq]
  exact clash_vc
theorem clash_has : Has prog 13 f13 (bodyOf f13) := ⟨by kernel_rfl, by kernel_rfl, by kernel_rfl⟩
theorem known149 : Known prog L149 := by
  unfold L149
  exact known148.lent mixed clash_has F148_eq clash_ok (fun _ _ => Nat.le_refl _) (fun _ _ => rfl)
theorem any_yes {q : TIn → Bool} {l : List TIn} {k : Nat} {y : TIn} (e : qIdx q l 0 = qIdx q (l.drop k) k) (h : l[k]? = some y) (hq : q y = true) : decide (qIdx q l 0 ≥ 0) = true := by
  rw [e, qIdx_at h, if_pos hq, decide_eq_true_eq]
  omega
theorem any_no {q : TIn → Bool} {l : List TIn} {k : Nat} (e : qIdx q l 0 = qIdx q (l.drop k) k) (h : l.length ≤ k) : decide (qIdx q l 0 ≥ 0) = false := by
  rw [e, List.drop_of_length_le h]
  rfl
theorem any_next {q : TIn → Bool} {l : List TIn} {k : Nat} {y : TIn} (e : qIdx q l 0 = qIdx q (l.drop k) k) (h : l[k]? = some y) (hq : q y = false) : qIdx q l 0 = qIdx q (l.drop (k + 1)) (k + 1) := by
  rw [e, qIdx_at h, if_neg (by rw [hq]; simp)]
def rspendsVC : Prop := ∀ (x : SpT), True → (∃ x_1, (x_1 ≤ x.t.ins.length ∧ qIdx (hitB x.p) x.t.ins (0 : Nat) = qIdx (hitB x.p) (List.drop x_1 x.t.ins) x_1) ∧ (↑x_1 : Int) =
  (0 : Int) ∧ ((x.t.lock = x.t.lock ∧ x.t.ins = x.t.ins ∧ x.t.outs = x.t.outs ∧ True) ∧ (x.p.tx = x.p.tx ∧ x.p.n = x.p.n ∧ True) ∧ True) ∧ True) ∧ ∀ (x_1
  : Nat), x_1 ≤ x.t.ins.length ∧ qIdx (hitB x.p) x.t.ins (0 : Nat) = qIdx (hitB x.p) (List.drop x_1 x.t.ins) x_1 → (↑x.t.ins.length : Int) ≤
  (9223372036854775807 : Int) → (decide ((↑x_1 : Int) < (↑x.t.ins.length : Int)) = true → (0 : Int) ≤ (↑x_1 : Int) ∧ (↑x_1 : Int) < (↑x.t.ins.length :
  Int) ∧ ∀ (y : AA (80 : Nat)), x.t.ins[(↑x_1 : Int).toNat]? = some y → ((y.tx == x.p.tx && (y.n == x.p.n && true))
  = true → spendsB x.p x.t.ins = true ∧ True ∧ True) ∧ ((y.tx == x.p.tx && (y.n == x.p.n && true)) = false → inI64 ((↑x_1 : Int) + (1 : Int)) ∧ ∃ y, (y ≤
  x.t.ins.length ∧ qIdx (hitB x.p) x.t.ins (0 : Nat) = qIdx (hitB x.p) (List.drop y x.t.ins) y) ∧ x.t.ins.length - y < x.t.ins.length - x_1 ∧ (↑y : Int)
  = (↑x_1 : Int) + (1 : Int) ∧ ((x.t.lock = x.t.lock ∧ x.t.ins = x.t.ins ∧ x.t.outs = x.t.outs ∧ True) ∧ (x.p.tx = x.p.tx ∧ x.p.n = x.p.n ∧ True) ∧ True)
  ∧ True)) ∧ (decide ((↑x_1 : Int) < (↑x.t.ins.length : Int)) = false → spendsB x.p x.t.ins = false ∧ True ∧ True)
theorem rspends_eq : rspendsVC = fnS F149 f12 (bodyOf f12) rspendsLS rspendsAnn := by kernel_rfl
theorem rspends_vc : rspendsVC := by
  intro x _
  refine ⟨⟨0, ⟨Nat.zero_le _, rfl⟩, rfl, ⟨⟨rfl, rfl, rfl, trivial⟩, ⟨rfl, rfl, trivial⟩, trivial⟩, trivial⟩, fun k hk hl => ⟨fun h => ?_, fun h => ⟨?_, trivial, trivial⟩⟩⟩
  · simp only [decide_eq_true_eq] at h
    have hk' : k < x.t.ins.length := by omega
    refine ⟨by omega, h, fun y hy => ⟨fun h1 => ⟨?_, trivial, trivial⟩, fun h1 => ⟨by unfold inI64; omega, k + 1, ⟨hk', ?_⟩, by omega, by omega, ⟨⟨rfl, rfl, rfl, trivial⟩, ⟨rfl, rfl, trivial⟩, trivial⟩, trivial⟩⟩⟩
    · exact any_yes (y := y) hk.2 hy h1
    · exact any_next (y := y) hk.2 hy h1
  · simp only [decide_eq_false_iff_not] at h
    exact any_no hk.2 (by omega)
theorem rspends_ok : Fits F149 f12 (bodyOf f12) rspendsLS rspendsAnn := by
  constructor
  rw [← rspends_eq]
  exact rspends_vc
theorem rspends_has : Has prog 12 f12 (bodyOf f12) := ⟨by kernel_rfl, by kernel_rfl, by kernel_rfl⟩
theorem known150 : Known prog L150 := by
  unfold L150
  exact known149.lent mixed rspends_has F149_eq rspends_ok (fun _ _ => Nat.le_refl _) (fun _ _ => rfl)
def rclashVC : Prop := ∀ (x : TxTx), True → (∃ x_1, (x_1 ≤ x.t.ins.length ∧ qIdx (clQ x.u) x.t.ins (0 : Nat) = qIdx (clQ x.u) (List.drop x_1 x.t.ins) x_1) ∧ (↑x_1 : Int) = (0
  : Int) ∧ ((x.t.lock = x.t.lock ∧ x.t.ins = x.t.ins ∧ x.t.outs = x.t.outs ∧ True) ∧ (x.u.lock = x.u.lock ∧ x.u.ins = x.u.ins ∧ x.u.outs = x.u.outs ∧
  True) ∧ True) ∧ True) ∧ ∀ (x_1 : Nat), x_1 ≤ x.t.ins.length ∧ qIdx (clQ x.u) x.t.ins (0 : Nat) = qIdx (clQ x.u) (List.drop x_1 x.t.ins) x_1 →
  (↑x.t.ins.length : Int) ≤ (9223372036854775807 : Int) → (decide ((↑x_1 : Int) < (↑x.t.ins.length : Int)) = true → (0 : Int) ≤ (↑x_1 : Int) ∧ (↑x_1 :
  Int) < (↑x.t.ins.length : Int) ∧ ∀ (y : AA (80 : Nat)), x.t.ins[(↑x_1 : Int).toNat]? = some y → ((x.u.lock =
  x.u.lock ∧ x.u.ins = x.u.ins ∧ x.u.outs = x.u.outs ∧ True) ∧ y.tx = y.tx ∧ y.n = y.n ∧ True) ∧ True ∧ True ∧ (spendsB (Pt.mk y.tx y.n) x.u.ins = true → clashB x.t x.u
  = true ∧ True ∧ True) ∧ (spendsB (Pt.mk y.tx y.n) x.u.ins = false → inI64 ((↑x_1 : Int) + (1 : Int)) ∧ ∃ y, (y ≤ x.t.ins.length ∧ qIdx (clQ x.u) x.t.ins (0 : Nat) =
  qIdx (clQ x.u) (List.drop y x.t.ins) y) ∧ x.t.ins.length - y < x.t.ins.length - x_1 ∧ (↑y : Int) = (↑x_1 : Int) + (1 : Int) ∧ ((x.t.lock = x.t.lock ∧
  x.t.ins = x.t.ins ∧ x.t.outs = x.t.outs ∧ True) ∧ (x.u.lock = x.u.lock ∧ x.u.ins = x.u.ins ∧ x.u.outs = x.u.outs ∧ True) ∧ True) ∧ True)) ∧ (decide
  ((↑x_1 : Int) < (↑x.t.ins.length : Int)) = false → clashB x.t x.u = false ∧ True ∧ True)
theorem rclash_eq : rclashVC = fnS F150 f14 (bodyOf f14) rclashLS rclashAnn := by kernel_rfl
theorem rclash_vc : rclashVC := by
  intro x _
  refine ⟨⟨0, ⟨Nat.zero_le _, rfl⟩, rfl, ⟨⟨rfl, rfl, rfl, trivial⟩, ⟨rfl, rfl, rfl, trivial⟩, trivial⟩, trivial⟩, fun k hk hl => ⟨fun h => ?_, fun h => ⟨?_, trivial, trivial⟩⟩⟩
  · simp only [decide_eq_true_eq] at h
    have hk' : k < x.t.ins.length := by omega
    refine ⟨by omega, h, fun y hy => ⟨⟨⟨rfl, rfl, rfl, trivial⟩, rfl, rfl, trivial⟩, trivial, trivial, ⟨fun h1 => ⟨?_, trivial, trivial⟩, fun h1 => ⟨by unfold inI64; omega, k + 1, ⟨hk', ?_⟩, by omega, by omega, ⟨⟨rfl, rfl, rfl, trivial⟩, ⟨rfl, rfl, rfl, trivial⟩, trivial⟩, trivial⟩⟩⟩⟩
    · exact any_yes (y := y) hk.2 hy h1
    · exact any_next (y := y) hk.2 hy h1
  · simp only [decide_eq_false_iff_not] at h
    exact any_no hk.2 (by omega)
theorem rclash_ok : Fits F150 f14 (bodyOf f14) rclashLS rclashAnn := by
  constructor
  rw [← rclash_eq]
  exact rclash_vc
theorem rclash_has : Has prog 14 f14 (bodyOf f14) := ⟨by kernel_rfl, by kernel_rfl, by kernel_rfl⟩
theorem known151 : Known prog L151 := by
  unfold L151
  exact known150.lent mixed rclash_has F150_eq rclash_ok (fun _ _ => Nat.le_refl _) (fun _ _ => rfl)
theorem lex_none {a b : List Int} (h : a = b) : lexN a b = 0 := by rw [h]; exact lexN_self b
theorem take_get {a b : List Int} {k : Nat} (h : a.take k = b.take k) {j : Nat} (hj : j < k) : a.getD j 0 = b.getD j 0 := by
  have h1 := congrArg (fun l => l.getD j 0) h
  simp only [List.getD_eq_getElem?_getD, List.getElem?_take, if_pos hj] at h1
  rw [List.getD_eq_getElem?_getD, List.getD_eq_getElem?_getD]
  exact h1
def rlessVC : Prop := ∀ (x : PP), x.Ok → (∃ x_1, (x_1 ≤ (32 : Nat) ∧ List.take x_1 x.p.tx = List.take x_1 x.q.tx) ∧ (↑x_1 : Int) = (0 : Int) ∧ ((x.p.tx = x.p.tx ∧ x.p.n =
  x.p.n ∧ True) ∧ (x.q.tx = x.q.tx ∧ x.q.n = x.q.n ∧ True) ∧ True) ∧ True) ∧ ∀ (x_1 : Nat), x_1 ≤ (32 : Nat) ∧ List.take x_1 x.p.tx = List.take x_1
  x.q.tx → (decide ((↑x_1 : Int) < (32 : Int)) = true → (0 : Int) ≤ (↑x_1 : Int) ∧ (↑x_1 : Int) < (↑(32 : Nat) : Int) ∧ (0 : Int) ≤ (↑x_1 : Int) ∧ (↑x_1
  : Int) < (↑(32 : Nat) : Int) ∧ ((x.p.tx.getD (↑x_1 : Int).toNat (0 : Int) != x.q.tx.getD (↑x_1 : Int).toNat (0 : Int)) = true → (0 : Int) ≤ (↑x_1 :
  Int) ∧ (↑x_1 : Int) < (↑(32 : Nat) : Int) ∧ (0 : Int) ≤ (↑x_1 : Int) ∧ (↑x_1 : Int) < (↑(32 : Nat) : Int) ∧ lessB x.p x.q = decide (x.p.tx.getD (↑x_1 :
  Int).toNat (0 : Int) < x.q.tx.getD (↑x_1 : Int).toNat (0 : Int)) ∧ True ∧ True) ∧ ((x.p.tx.getD (↑x_1 : Int).toNat (0 : Int) != x.q.tx.getD (↑x_1 :
  Int).toNat (0 : Int)) = false → inI64 ((↑x_1 : Int) + (1 : Int)) ∧ ∃ y, (y ≤ (32 : Nat) ∧ List.take y x.p.tx = List.take y x.q.tx) ∧ (32 : Nat) - y <
  (32 : Nat) - x_1 ∧ (↑y : Int) = (↑x_1 : Int) + (1 : Int) ∧ ((x.p.tx = x.p.tx ∧ x.p.n = x.p.n ∧ True) ∧ (x.q.tx = x.q.tx ∧ x.q.n = x.q.n ∧ True) ∧ True)
  ∧ True)) ∧ (decide ((↑x_1 : Int) < (32 : Int)) = false → lessB x.p x.q = decide (x.p.n < x.q.n) ∧ True ∧ True)
theorem rless_eq : rlessVC = fnS F151 f16 (bodyOf f16) rlessLS rlessAnn := by kernel_rfl
theorem rless_vc : rlessVC := by
  intro x hx
  have hp := hx.p
  have hq := hx.q
  have l1 := hp.1
  have l2 := hq.1
  refine ⟨⟨0, ⟨Nat.zero_le _, rfl⟩, rfl, ⟨⟨rfl, rfl, trivial⟩, ⟨rfl, rfl, trivial⟩, trivial⟩, trivial⟩, fun k hk => ⟨fun h => ?_, fun h => ⟨?_, trivial, trivial⟩⟩⟩
  · simp only [decide_eq_true_eq] at h
    have e : (k : Int).toNat = k := Int.toNat_natCast k
    rw [e]
    refine ⟨by omega, by omega, by omega, by omega, fun h1 => ⟨by omega, by omega, by omega, by omega, ?_, trivial, trivial⟩, fun h1 => ⟨by unfold inI64; omega, k + 1, ⟨by omega, ?_⟩, by omega, by omega, ⟨⟨rfl, rfl, trivial⟩, ⟨rfl, rfl, trivial⟩, trivial⟩, trivial⟩⟩
    · have h2 : x.p.tx.getD k 0 ≠ x.q.tx.getD k 0 := by simpa using h1
      have h3 := lexN_at (i := k) (xs := x.p.tx) (ys := x.q.tx) (by omega) (by omega) (fun j hj => take_get hk.2 hj) h2
      rw [Bool.eq_iff_iff, lessB_iff hp hq, decide_eq_true_eq, h3]
      split
      · constructor
        · intro _; assumption
        · intro _; exact .inl (by omega)
      · constructor
        · intro h4; omega
        · intro h4; omega
    · have h2 : x.p.tx.getD k 0 = x.q.tx.getD k 0 := by simpa using h1
      rw [List.take_add_one, List.take_add_one, hk.2, List.getElem?_eq_getElem (by omega), List.getElem?_eq_getElem (by omega)]
      rw [List.getD_eq_getElem?_getD, List.getElem?_eq_getElem (by omega), List.getD_eq_getElem?_getD, List.getElem?_eq_getElem (by omega)] at h2
      simp only [Option.getD_some] at h2
      rw [h2]
  · simp only [decide_eq_false_iff_not] at h
    have h1 : x.p.tx = x.q.tx := by
      have h2 := hk.2
      rwa [List.take_of_length_le (by omega), List.take_of_length_le (by omega)] at h2
    rw [Bool.eq_iff_iff, lessB_iff hp hq, decide_eq_true_eq, lex_none h1]
    omega
theorem rless_ok : Fits F151 f16 (bodyOf f16) rlessLS rlessAnn := by
  constructor
  rw [← rless_eq]
  exact rless_vc
theorem rless_has : Has prog 16 f16 (bodyOf f16) := ⟨by kernel_rfl, by kernel_rfl, by kernel_rfl⟩
theorem known152 : Known prog L152 := by
  unfold L152
  exact known151.lent mixed rless_has F151_eq rless_ok (fun _ _ => Nat.le_refl _) (fun _ _ => rfl)
def rBytesVC : Prop := ∀ (x : BB), x.Ok → x.xs = x.xs ∧ True ∧ x.xs.length.le (1099511627776 : Nat) ∧ (∃ x_1, Nat.le x_1 x.b.length ∧ ((↑x_1 : Int) = (0 : Int) ∧ True) ∧ True
  ∧ x.xs ++ stuffB (List.take x_1 x.b) = x.xs ∧ True) ∧ ∀ (x_1 : Nat), x_1.le x.b.length → (↑x.b.length : Int) ≤ (9223372036854775807 : Int) → (decide
  ((↑x_1 : Int) < (↑x.b.length : Int)) = true → (0 : Int) ≤ (↑x_1 : Int) ∧ (↑x_1 : Int) < (↑x.b.length : Int) ∧ (↑x_1 : Int).toNat < x.b.length ∧ ((x.xs
  ++ stuffB (List.take x_1 x.b)).length + [x.b.getD (↑x_1 : Int).toNat (0 : Int)].length) * (1 : Nat) ≤ (140737488355328 : Nat) ∧ (x.xs ++ stuffB
  (List.take x_1 x.b)).length + [x.b.getD (↑x_1 : Int).toNat (0 : Int)].length ≤ (1152921504606846976 : Nat) ∧ (0 : Int) ≤ (↑x_1 : Int) ∧ (↑x_1 : Int) <
  (↑x.b.length : Int) ∧ (↑x_1 : Int).toNat < x.b.length ∧ ((x.b.getD (↑x_1 : Int).toNat (0 : Int) == (0 : Int)) = true → ((x.xs ++ stuffB (List.take x_1
  x.b) ++ [x.b.getD (↑x_1 : Int).toNat (0 : Int)]).length + [(255 : Int)].length) * (1 : Nat) ≤ (140737488355328 : Nat) ∧ (x.xs ++ stuffB (List.take x_1
  x.b) ++ [x.b.getD (↑x_1 : Int).toNat (0 : Int)]).length + [(255 : Int)].length ≤ (1152921504606846976 : Nat) ∧ inI64 ((↑x_1 : Int) + (1 : Int)) ∧ ∃ y,
  Nat.le y x.b.length ∧ x.b.length - y < x.b.length - x_1 ∧ ((↑y : Int) = (↑x_1 : Int) + (1 : Int) ∧ True) ∧ True ∧ x.xs ++ stuffB (List.take y x.b) =
  x.xs ++ stuffB (List.take x_1 x.b) ++ [x.b.getD (↑x_1 : Int).toNat (0 : Int)] ++ [(255 : Int)] ∧ True) ∧ ((x.b.getD (↑x_1 : Int).toNat (0 : Int) == (0
  : Int)) = false → inI64 ((↑x_1 : Int) + (1 : Int)) ∧ ∃ y, Nat.le y x.b.length ∧ x.b.length - y < x.b.length - x_1 ∧ ((↑y : Int) = (↑x_1 : Int) + (1 :
  Int) ∧ True) ∧ True ∧ x.xs ++ stuffB (List.take y x.b) = x.xs ++ stuffB (List.take x_1 x.b) ++ [x.b.getD (↑x_1 : Int).toNat (0 : Int)] ∧ True)) ∧
  (decide ((↑x_1 : Int) < (↑x.b.length : Int)) = false → ((x.xs ++ stuffB (List.take x_1 x.b)).length + [(0 : Int), (0 : Int)].length) * (1 : Nat) ≤
  (140737488355328 : Nat) ∧ (x.xs ++ stuffB (List.take x_1 x.b)).length + [(0 : Int), (0 : Int)].length ≤ (1152921504606846976 : Nat) ∧ True ∧ True ∧
  x.xs ++ bytesB x.b = x.xs ++ stuffB (List.take x_1 x.b) ++ [(0 : Int), (0 : Int)] ∧ True)
theorem rBytes_eq : rBytesVC = fnS F152 f90 (bodyOf f90) rBytesLS rBytesAnn := by kernel_rfl
theorem rBytes_vc : rBytesVC := by
  rintro ⟨xs, b⟩ ⟨hl, hb⟩
  simp only at hl hb
  simp only [true_and, and_true, decide_eq_true_eq, decide_eq_false_iff_not, Int.toNat_natCast, List.length_append, List.length_cons, List.length_nil, beq_iff_eq, beq_eq_false_iff_ne, ne_eq]
  refine ⟨by show xs.length ≤ 1099511627776; omega, ⟨0, Nat.zero_le _, rfl, by simp [stuffB]⟩, fun i hi _ => ⟨fun h => ?_, fun h => ?_⟩⟩
  · have hi' : i < b.length := by omega
    have p1 := stuffB_take_le b i
    have hup := take_up hi' rfl
    refine ⟨by omega, h, hi', by omega, by omega, by omega, h, hi', fun h0 => ⟨by omega, by omega, by unfold inI64; omega, i + 1, hi', by omega, by omega, ?_⟩, fun h0 => ⟨by unfold inI64; omega, i + 1, hi', by omega, by omega, ?_⟩⟩
    · rw [hup, stuffB_app, h0]
      simp [stuffB]
    · rw [hup, stuffB_app]
      simp only [stuffB, if_neg h0, List.append_assoc]
  · have p1 := stuffB_take_le b i
    refine ⟨by omega, by omega, ?_⟩
    rw [List.take_of_length_le (by omega)]
    simp [bytesB]
theorem rBytes_ok : Fits F152 f90 (bodyOf f90) rBytesLS rBytesAnn := by
  constructor
  rw [← rBytes_eq]
  exact rBytes_vc
theorem rBytes_has : Has prog 90 f90 (bodyOf f90) := ⟨by kernel_rfl, by kernel_rfl, by kernel_rfl⟩
theorem known153 : Known prog L153 := by
  unfold L153
  exact known152.lent mixed rBytes_has F152_eq rBytes_ok (fun _ _ => Nat.zero_le _) (fun _ _ => rfl)
end Go.Proofs.YtcglahfmnoghjaaGreatDoor

/-! The document's sum of a transaction; TxPoints: the walks. Conditions: none. -/
namespace Go.Proofs.YtcglahfmnoghjaaGreatDoor
open Go Go.Eng Go.Proofs.Tryz

def rputTxVC : Prop := ∀ (x : TxD), EncR x → (↑x.ins.length : Int) ≤ (9223372036854775807 : Int) → (([] : List Int) = [] ∧ wr IntKind.u64 x.lock = wr IntKind.u64 x.lock) ∧
  True ∧ (BN.mk [] (wr IntKind.u64 x.lock)).Low ∧ ([] ++ uintB (wr IntKind.u64 x.lock) = [] ++ uintB (wr IntKind.u64 x.lock) ∧ wr IntKind.u64
  (↑x.ins.length : Int) = wr IntKind.u64 (↑x.ins.length : Int)) ∧ True ∧ (BN.mk ([] ++ uintB (wr IntKind.u64 x.lock)) (wr IntKind.u64 (↑x.ins.length :
  Int))).Low ∧ (∃ x_1, Nat.le x_1 x.ins.length ∧ ((↑x_1 : Int) = (0 : Int) ∧ [] ++ uintB (wr IntKind.u64 x.lock) ++ uintB (wr IntKind.u64 (↑x.ins.length
  : Int)) ++ insB (secR false) (List.take x_1 x.ins) = [] ++ uintB (wr IntKind.u64 x.lock) ++ uintB (wr IntKind.u64 (↑x.ins.length : Int))) ∧ ((x.lock =
  x.lock ∧ x.ins = x.ins ∧ x.outs = x.outs ∧ True) ∧ [] ++ uintB (wr IntKind.u64 x.lock) = [] ++ uintB (wr IntKind.u64 x.lock) ∧ True) ∧ True) ∧ ∀ (x_1 :
  Nat), x_1.le x.ins.length → (↑x.ins.length : Int) ≤ (9223372036854775807 : Int) → (decide ((↑x_1 : Int) < (↑x.ins.length : Int)) = true → (0 : Int) ≤
  (↑x_1 : Int) ∧ (↑x_1 : Int) < (↑x.ins.length : Int) ∧ ∀ (y : AA (80 : Nat)), x.ins[(↑x_1 : Int).toNat]? = some y → ([] ++ uintB (wr IntKind.u64 x.lock)
  ++ uintB (wr IntKind.u64 (↑x.ins.length : Int)) ++ insB (secR false) (List.take x_1 x.ins) = [] ++ uintB (wr IntKind.u64 x.lock) ++ uintB (wr
  IntKind.u64 (↑x.ins.length : Int)) ++ insB (secR false) (List.take x_1 x.ins) ∧ y.tx = y.tx ∧ True) ∧ True ∧ (BH.mk ([] ++ uintB (wr IntKind.u64
  x.lock) ++ uintB (wr IntKind.u64 (↑x.ins.length : Int)) ++ insB (secR false) (List.take x_1 x.ins)) y.tx).Ok ∧ ([] ++ uintB (wr IntKind.u64 x.lock) ++
  uintB (wr IntKind.u64 (↑x.ins.length : Int)) ++ insB (secR false) (List.take x_1 x.ins) ++ y.tx = [] ++ uintB (wr IntKind.u64 x.lock) ++ uintB (wr
  IntKind.u64 (↑x.ins.length : Int)) ++ insB (secR false) (List.take x_1 x.ins) ++ y.tx ∧ wr IntKind.u64 y.n = wr IntKind.u64 y.n) ∧ True ∧ (BN.mk ([] ++
  uintB (wr IntKind.u64 x.lock) ++ uintB (wr IntKind.u64 (↑x.ins.length : Int)) ++ insB (secR false) (List.take x_1 x.ins) ++ y.tx) (wr IntKind.u64
  y.n)).Low ∧ ([] ++ uintB (wr IntKind.u64 x.lock) ++ uintB (wr IntKind.u64 (↑x.ins.length : Int)) ++ insB (secR false) (List.take x_1 x.ins) ++ y.tx ++
  uintB (wr IntKind.u64 y.n) = [] ++ uintB (wr IntKind.u64 x.lock) ++ uintB (wr IntKind.u64 (↑x.ins.length : Int)) ++ insB (secR false) (List.take x_1
  x.ins) ++ y.tx ++ uintB (wr IntKind.u64 y.n) ∧ wr IntKind.u64 y.branch = wr IntKind.u64 y.branch) ∧ True ∧ (BN.mk ([] ++ uintB (wr IntKind.u64 x.lock)
  ++ uintB (wr IntKind.u64 (↑x.ins.length : Int)) ++ insB (secR false) (List.take x_1 x.ins) ++ y.tx ++ uintB (wr IntKind.u64 y.n)) (wr IntKind.u64
  y.branch)).Low ∧ ([] ++ uintB (wr IntKind.u64 x.lock) ++ uintB (wr IntKind.u64 (↑x.ins.length : Int)) ++ insB (secR false) (List.take x_1 x.ins) ++
  y.tx ++ uintB (wr IntKind.u64 y.n) ++ uintB (wr IntKind.u64 y.branch) = [] ++ uintB (wr IntKind.u64 x.lock) ++ uintB (wr IntKind.u64 (↑x.ins.length :
  Int)) ++ insB (secR false) (List.take x_1 x.ins) ++ y.tx ++ uintB (wr IntKind.u64 y.n) ++ uintB (wr IntKind.u64 y.branch) ∧ ([] : List Int) = []) ∧
  True ∧ (BB.mk ([] ++ uintB (wr IntKind.u64 x.lock) ++ uintB (wr IntKind.u64 (↑x.ins.length : Int)) ++ insB (secR false) (List.take x_1 x.ins) ++ y.tx
  ++ uintB (wr IntKind.u64 y.n) ++ uintB (wr IntKind.u64 y.branch)) []).Ok ∧ inI64 ((↑x_1 : Int) + (1 : Int)) ∧ ∃ y_1, Nat.le y_1 x.ins.length ∧
  x.ins.length - y_1 < x.ins.length - x_1 ∧ ((↑y_1 : Int) = (↑x_1 : Int) + (1 : Int) ∧ [] ++ uintB (wr IntKind.u64 x.lock) ++ uintB (wr IntKind.u64
  (↑x.ins.length : Int)) ++ insB (secR false) (List.take y_1 x.ins) = [] ++ uintB (wr IntKind.u64 x.lock) ++ uintB (wr IntKind.u64 (↑x.ins.length : Int))
  ++ insB (secR false) (List.take x_1 x.ins) ++ y.tx ++ uintB (wr IntKind.u64 y.n) ++ uintB (wr IntKind.u64 y.branch) ++ bytesB []) ∧ ((x.lock = x.lock ∧
  x.ins = x.ins ∧ x.outs = x.outs ∧ True) ∧ [] ++ uintB (wr IntKind.u64 x.lock) = [] ++ uintB (wr IntKind.u64 x.lock) ∧ True) ∧ True) ∧ (decide ((↑x_1 :
  Int) < (↑x.ins.length : Int)) = false → (↑x.outs.length : Int) ≤ (9223372036854775807 : Int) → ([] ++ uintB (wr IntKind.u64 x.lock) ++ uintB (wr
  IntKind.u64 (↑x.ins.length : Int)) ++ insB (secR false) (List.take x_1 x.ins) = [] ++ uintB (wr IntKind.u64 x.lock) ++ uintB (wr IntKind.u64
  (↑x.ins.length : Int)) ++ insB (secR false) (List.take x_1 x.ins) ∧ wr IntKind.u64 (↑x.outs.length : Int) = wr IntKind.u64 (↑x.outs.length : Int)) ∧
  True ∧ (BN.mk ([] ++ uintB (wr IntKind.u64 x.lock) ++ uintB (wr IntKind.u64 (↑x.ins.length : Int)) ++ insB (secR false) (List.take x_1 x.ins)) (wr
  IntKind.u64 (↑x.outs.length : Int))).Low ∧ (∃ x_2, Nat.le x_2 x.outs.length ∧ ((↑x_2 : Int) = (0 : Int) ∧ [] ++ uintB (wr IntKind.u64 x.lock) ++ uintB
  (wr IntKind.u64 (↑x.ins.length : Int)) ++ insB (secR false) (List.take x_1 x.ins) ++ uintB (wr IntKind.u64 (↑x.outs.length : Int)) ++ toutsB (List.take
  x_2 x.outs) = [] ++ uintB (wr IntKind.u64 x.lock) ++ uintB (wr IntKind.u64 (↑x.ins.length : Int)) ++ insB (secR false) (List.take x_1 x.ins) ++ uintB
  (wr IntKind.u64 (↑x.outs.length : Int))) ∧ ((x.lock = x.lock ∧ x.ins = x.ins ∧ x.outs = x.outs ∧ True) ∧ [] ++ uintB (wr IntKind.u64 x.lock) = [] ++
  uintB (wr IntKind.u64 x.lock) ∧ True) ∧ True) ∧ ∀ (x_2 : Nat), x_2.le x.outs.length → (↑x.outs.length : Int) ≤ (9223372036854775807 : Int) → (decide
  ((↑x_2 : Int) < (↑x.outs.length : Int)) = true → (0 : Int) ≤ (↑x_2 : Int) ∧ (↑x_2 : Int) < (↑x.outs.length : Int) ∧ ∀ (y : AA (82 : Nat)), x.outs[(↑x_2
  : Int).toNat]? = some y → (0 : Int) ≤ (↑x_2 : Int) ∧ (↑x_2 : Int) < (↑x.outs.length : Int) ∧ ∀ (y_1 : AA (82 : Nat)), x.outs[(↑x_2 : Int).toNat]? =
  some y_1 → ([] ++ uintB (wr IntKind.u64 x.lock) ++ uintB (wr IntKind.u64 (↑x.ins.length : Int)) ++ insB (secR false) (List.take x_1 x.ins) ++ uintB (wr
  IntKind.u64 (↑x.outs.length : Int)) ++ toutsB (List.take x_2 x.outs) = [] ++ uintB (wr IntKind.u64 x.lock) ++ uintB (wr IntKind.u64 (↑x.ins.length :
  Int)) ++ insB (secR false) (List.take x_1 x.ins) ++ uintB (wr IntKind.u64 (↑x.outs.length : Int)) ++ toutsB (List.take x_2 x.outs) ∧ wr IntKind.u64
  y.amount = wr IntKind.u64 y.amount) ∧ True ∧ (BN.mk ([] ++ uintB (wr IntKind.u64 x.lock) ++ uintB (wr IntKind.u64 (↑x.ins.length : Int)) ++ insB (secR
  false) (List.take x_1 x.ins) ++ uintB (wr IntKind.u64 (↑x.outs.length : Int)) ++ toutsB (List.take x_2 x.outs)) (wr IntKind.u64 y.amount)).Low ∧ ([] ++
  uintB (wr IntKind.u64 x.lock) ++ uintB (wr IntKind.u64 (↑x.ins.length : Int)) ++ insB (secR false) (List.take x_1 x.ins) ++ uintB (wr IntKind.u64
  (↑x.outs.length : Int)) ++ toutsB (List.take x_2 x.outs) ++ uintB (wr IntKind.u64 y.amount) = [] ++ uintB (wr IntKind.u64 x.lock) ++ uintB (wr
  IntKind.u64 (↑x.ins.length : Int)) ++ insB (secR false) (List.take x_1 x.ins) ++ uintB (wr IntKind.u64 (↑x.outs.length : Int)) ++ toutsB (List.take x_2
  x.outs) ++ uintB (wr IntKind.u64 y.amount) ∧ y_1.cond = y_1.cond ∧ True) ∧ True ∧ (PutX.mk ([] ++ uintB (wr IntKind.u64 x.lock) ++ uintB (wr
  IntKind.u64 (↑x.ins.length : Int)) ++ insB (secR false) (List.take x_1 x.ins) ++ uintB (wr IntKind.u64 (↑x.outs.length : Int)) ++ toutsB (List.take x_2
  x.outs) ++ uintB (wr IntKind.u64 y.amount)) y_1.cond).Ok ∧ inI64 ((↑x_2 : Int) + (1 : Int)) ∧ ∃ y_2, Nat.le y_2 x.outs.length ∧ x.outs.length - y_2 <
  x.outs.length - x_2 ∧ ((↑y_2 : Int) = (↑x_2 : Int) + (1 : Int) ∧ [] ++ uintB (wr IntKind.u64 x.lock) ++ uintB (wr IntKind.u64 (↑x.ins.length : Int)) ++
  insB (secR false) (List.take x_1 x.ins) ++ uintB (wr IntKind.u64 (↑x.outs.length : Int)) ++ toutsB (List.take y_2 x.outs) = [] ++ uintB (wr IntKind.u64
  x.lock) ++ uintB (wr IntKind.u64 (↑x.ins.length : Int)) ++ insB (secR false) (List.take x_1 x.ins) ++ uintB (wr IntKind.u64 (↑x.outs.length : Int)) ++
  toutsB (List.take x_2 x.outs) ++ uintB (wr IntKind.u64 y.amount) ++ putB y_1.cond) ∧ ((x.lock = x.lock ∧ x.ins = x.ins ∧ x.outs = x.outs ∧ True) ∧ []
  ++ uintB (wr IntKind.u64 x.lock) = [] ++ uintB (wr IntKind.u64 x.lock) ∧ True) ∧ True) ∧ (decide ((↑x_2 : Int) < (↑x.outs.length : Int)) = false →
  putTx (secR false) x = [] ++ uintB (wr IntKind.u64 x.lock) ++ uintB (wr IntKind.u64 (↑x.ins.length : Int)) ++ insB (secR false) (List.take x_1 x.ins)
  ++ uintB (wr IntKind.u64 (↑x.outs.length : Int)) ++ toutsB (List.take x_2 x.outs) ∧ True ∧ True))
theorem rputTx_eq : rputTxVC = fnS F153 f45 (bodyOf f45) (rputTxLS false) (rputTxAnn false) := by kernel_rfl
theorem rputTx_vc : rputTxVC := by
  intro x hx
  have hs : secR false = secOf 76 := by
    funext y
    rfl
  have ht := hx.toTxOk
  have h1 := ht.n
  have h2 := ht.m
  have h3 := ht.w
  have q1 := tA1_le x
  rw [hs]
  simp only [true_and, and_true, decide_eq_true_eq, decide_eq_false_iff_not, Int.toNat_natCast]
  refine fun _ => ⟨low_of (by simp), low_of (by
    have := uintB_le x.lock
    simp only [List.nil_append]
    omega), ⟨0, Nat.zero_le _, rfl, by simp [insB]⟩, fun k hk _ => ⟨fun h => ?_, fun h _ => ?_⟩⟩
  · have hk' : k < x.ins.length := by omega
    refine ⟨by omega, h, fun y hy => ?_⟩
    have p3 := tA2_le ht k
    have p4 : y.tx.length = 32 := (ht.tx y (List.mem_of_getElem? hy)).1
    have p5 := uintB_le y.n
    have p6 := uintB_le y.branch
    refine ⟨⟨show (tA2 x k).length ≤ 1099511627776 by omega, p4⟩, low_of ?_, low_of ?_, ⟨?_, by simp⟩, by unfold inI64; omega, k + 1, hk', by omega, by omega, ?_⟩
    · show (tA2 x k ++ y.tx).length ≤ 1000000000000
      rw [List.length_append]; omega
    · show (tA2 x k ++ y.tx ++ uintB (wr .u64 y.n)).length ≤ 1000000000000
      rw [List.length_append, List.length_append]; omega
    · show (tA2 x k ++ y.tx ++ uintB (wr .u64 y.n) ++ uintB (wr .u64 y.branch)).length ≤ 1000000000000
      rw [List.length_append, List.length_append, List.length_append]; omega
    · rw [insB_up (y := y) hy]
      simp only [inB, List.append_assoc]
      rfl
  · have p3 := tA2_le ht k
    have p6 := tA6_le ht k
    refine ⟨low_of (show (tA2 x k).length ≤ 1000000000000 by omega), ⟨0, Nat.zero_le _, rfl, by simp [toutsB]⟩, fun i hi _ => ⟨fun h4 => ?_, fun h4 => ?_⟩⟩
    · have hi' : i < x.outs.length := by omega
      refine ⟨by omega, h4, fun y hy => ⟨by omega, h4, fun z hz => ?_⟩⟩
      have e : z = y := Option.some.inj (hz.symm.trans hy)
      subst e
      have p7 := tA7_le ht k i
      have p8 := uintB_le z.amount
      have p9 := weight_sum (List.mem_of_getElem? hy)
      refine ⟨low_of (show (tA7 x k i).length ≤ 1000000000000 by omega), ⟨?_, show weight z.cond ≤ 2000000 by omega, (ht.locks z (List.mem_of_getElem? hy)).1⟩, by unfold inI64; omega, i + 1, hi', by omega, by omega, ?_⟩
      · show (tA7 x k i ++ uintB (wr .u64 z.amount)).length ≤ 10000000000
        rw [List.length_append]; omega
      · rw [toutsB_up (y := z) hy]
        simp only [toutB, List.append_assoc]
    · rw [List.take_of_length_le (by omega), List.take_of_length_le (by omega)]
      simp only [putTx, List.nil_append]
theorem rputTx_ok : Fits F153 f45 (bodyOf f45) (rputTxLS false) (rputTxAnn false) := by
  constructor
  rw [← rputTx_eq]
  exact rputTx_vc
theorem rputTx_has : Has prog 45 f45 (bodyOf f45) := ⟨by kernel_rfl, by kernel_rfl, by kernel_rfl⟩
theorem known154 : Known prog L154 := by
  unfold L154
  exact known153.lent mixed rputTx_has F153_eq rputTx_ok (fun _ _ => Nat.le_refl _) (fun _ _ => rfl)
def rIdVC : Prop := ∀ (x : TxD), EncR x → ((x.lock = x.lock ∧ x.ins = x.ins ∧ x.outs = x.outs ∧ True) ∧ false = false) ∧ True ∧ EncR x ∧ putTx (secR false) x = putTx (secR
  false) x ∧ True ∧ Bytes (putTx (secR false) x) ∧ (idB x = sumB orderL (putTx (secR false) x) ∧ True) ∧ True ∧ True
theorem rId_eq : rIdVC = fnS F154 f18 (bodyOf f18) rIdLS noAnn := by kernel_rfl
theorem rId_vc : rIdVC := by
  intro x hx
  have ht := hx.toTxOk
  have hl := tA7_le ht x.ins.length x.outs.length
  have h1 := ht.n
  have h2 := ht.m
  have h3 := ht.w
  rw [tA7_all (Nat.le_refl _) (Nat.le_refl _)] at hl
  have hs : secR false = fun _ => [] := by
    funext y
    rfl
  rw [hs]
  exact ⟨⟨⟨rfl, rfl, rfl, trivial⟩, rfl⟩, trivial, hx, rfl, trivial, ⟨putTx_byt ht, by omega⟩, ⟨rfl, trivial⟩, trivial, trivial⟩
theorem rId_ok : Fits F154 f18 (bodyOf f18) rIdLS noAnn := by
  constructor
  rw [← rId_eq]
  exact rId_vc
theorem rId_has : Has prog 18 f18 (bodyOf f18) := ⟨by kernel_rfl, by kernel_rfl, by kernel_rfl⟩
theorem known155 : Known prog L155 := by
  unfold L155
  exact known154.lent mixed rId_has F154_eq rId_ok (fun _ _ => Nat.le_refl _) (fun _ _ => rfl)
/-! ## Clashing is alike both ways -/
theorem any_iff {q : TIn → Bool} : ∀ (l : List TIn) (k : Nat), 0 ≤ qIdx q l k ↔ ∃ x, x ∈ l ∧ q x = true
  | [], k => by simp [qIdx]
  | x :: l, k => by
    simp only [qIdx]
    split
    · rename_i h
      exact ⟨fun _ => ⟨x, List.mem_cons_self, h⟩, fun _ => by omega⟩
    · rename_i h
      rw [any_iff l (k + 1)]
      constructor
      · rintro ⟨y, h1, h2⟩
        exact ⟨y, List.mem_cons_of_mem _ h1, h2⟩
      · rintro ⟨y, h1, h2⟩
        rcases List.mem_cons.1 h1 with e | e
        · subst e; exact (h h2).elim
        · exact ⟨y, e, h2⟩
theorem hit_iff {p : Pt} {x : TIn} : hitB p x = true ↔ ptOf x = p := by
  obtain ⟨a, b⟩ := p
  unfold hitB ptOf
  simp
theorem spends_iff {p : Pt} {l : List TIn} : spendsB p l = true ↔ ∃ x, x ∈ l ∧ ptOf x = p := by
  unfold spendsB
  rw [decide_eq_true_eq, ge_iff_le, any_iff]
  simp only [hit_iff]
theorem clash_iff {t u : TxD} : clashB t u = true ↔ ∃ x y, x ∈ t.ins ∧ y ∈ u.ins ∧ ptOf x = ptOf y := by
  unfold clashB
  rw [decide_eq_true_eq, ge_iff_le, any_iff]
  constructor
  · rintro ⟨x, h1, h2⟩
    obtain ⟨y, h3, h4⟩ := spends_iff.1 (show spendsB (ptOf x) u.ins = true from h2)
    exact ⟨x, y, h1, h3, h4.symm⟩
  · rintro ⟨x, y, h1, h2, h3⟩
    exact ⟨x, h1, show spendsB (ptOf x) u.ins = true from spends_iff.2 ⟨y, h2, h3.symm⟩⟩
theorem clash_flip (t u : TxD) : clashB t u = clashB u t := by
  rw [Bool.eq_iff_iff, clash_iff, clash_iff]
  constructor
  · rintro ⟨x, y, h1, h2, h3⟩
    exact ⟨y, x, h2, h1, h3.symm⟩
  · rintro ⟨x, y, h1, h2, h3⟩
    exact ⟨y, x, h2, h1, h3.symm⟩
/-! ## The law -/
def pointsVC : Prop := ∀ (x : PtsX), x.Ok → (x.t.lock = x.t.lock ∧ x.t.ins = x.t.ins ∧ x.t.outs = x.t.outs ∧ True) ∧ True ∧ Small x.t ∧ (longB x.t = true → True ∧ True ∧ True
  ∧ true = true ∧ True ∧ True) ∧ (longB x.t = false → (x.u.lock = x.u.lock ∧ x.u.ins = x.u.ins ∧ x.u.outs = x.u.outs ∧ True) ∧ True ∧ Small x.u ∧ (longB
  x.u = true → True ∧ True ∧ True ∧ true = true ∧ True ∧ True) ∧ (longB x.u = false → (x.t.lock = x.t.lock ∧ x.t.ins = x.t.ins ∧ x.t.outs = x.t.outs ∧
  True) ∧ True ∧ Small x.t ∧ (x.u.lock = x.u.lock ∧ x.u.ins = x.u.ins ∧ x.u.outs = x.u.outs ∧ True) ∧ True ∧ Small x.u ∧ ((x.t.lock = x.t.lock ∧ x.t.ins
  = x.t.ins ∧ x.t.outs = x.t.outs ∧ True) ∧ x.p.tx = x.p.tx ∧ x.p.n = x.p.n ∧ True) ∧ True ∧ True ∧ ((x.t.lock = x.t.lock ∧ x.t.ins = x.t.ins ∧ x.t.outs
  = x.t.outs ∧ True) ∧ x.p.tx = x.p.tx ∧ x.p.n = x.p.n ∧ True) ∧ True ∧ True ∧ ((spendsB (Pt.mk x.p.tx x.p.n) x.t.ins == spendsB (Pt.mk x.p.tx x.p.n)
  x.t.ins) = true → ((x.t.lock = x.t.lock ∧ x.t.ins = x.t.ins ∧ x.t.outs = x.t.outs ∧ True) ∧ x.u.lock = x.u.lock ∧ x.u.ins = x.u.ins ∧ x.u.outs =
  x.u.outs ∧ True) ∧ True ∧ True ∧ ((x.t.lock = x.t.lock ∧ x.t.ins = x.t.ins ∧ x.t.outs = x.t.outs ∧ True) ∧ x.u.lock = x.u.lock ∧ x.u.ins = x.u.ins ∧
  x.u.outs = x.u.outs ∧ True) ∧ True ∧ True ∧ ((clashB x.t x.u == clashB x.t x.u) = true → ((x.u.lock = x.u.lock ∧ x.u.ins = x.u.ins ∧ x.u.outs =
  x.u.outs ∧ True) ∧ x.t.lock = x.t.lock ∧ x.t.ins = x.t.ins ∧ x.t.outs = x.t.outs ∧ True) ∧ True ∧ True ∧ ((x.t.lock = x.t.lock ∧ x.t.ins = x.t.ins ∧
  x.t.outs = x.t.outs ∧ True) ∧ x.u.lock = x.u.lock ∧ x.u.ins = x.u.ins ∧ x.u.outs = x.u.outs ∧ True) ∧ True ∧ True ∧ ((clashB x.u x.t == clashB x.t x.u)
  = true → ((x.p.tx = x.p.tx ∧ x.p.n = x.p.n ∧ True) ∧ x.q.tx = x.q.tx ∧ x.q.n = x.q.n ∧ True) ∧ True ∧ True ∧ ((x.p.tx = x.p.tx ∧ x.p.n = x.p.n ∧ True)
  ∧ x.q.tx = x.q.tx ∧ x.q.n = x.q.n ∧ True) ∧ True ∧ (PP.mk (Pt.mk x.p.tx x.p.n) (Pt.mk x.q.tx x.q.n)).Ok ∧ ((lessB (Pt.mk x.p.tx x.p.n) (Pt.mk x.q.tx
  x.q.n) == lessB (Pt.mk x.p.tx x.p.n) (Pt.mk x.q.tx x.q.n)) = true → ((x.t.lock = x.t.lock ∧ x.t.ins = x.t.ins ∧ x.t.outs = x.t.outs ∧ True) ∧ x.p.n =
  x.p.n) ∧ True ∧ TxOk x.t ∧ (x.t.lock = x.t.lock ∧ x.t.ins = x.t.ins ∧ x.t.outs = x.t.outs ∧ True) ∧ True ∧ EncR x.t ∧ ((idB x.t == idB x.t && (x.p.n ==
  x.p.n && true)) = true → True ∧ True ∧ True ∧ true = true ∧ True ∧ True) ∧ ((idB x.t == idB x.t && (x.p.n == x.p.n && true)) = false → true = false ∧
  True ∧ True)) ∧ ((lessB (Pt.mk x.p.tx x.p.n) (Pt.mk x.q.tx x.q.n) == lessB (Pt.mk x.p.tx x.p.n) (Pt.mk x.q.tx x.q.n)) = false → true = false ∧ True ∧
  True)) ∧ ((clashB x.u x.t == clashB x.t x.u) = false → true = false ∧ True ∧ True)) ∧ ((clashB x.t x.u == clashB x.t x.u) = false → true = false ∧ True
  ∧ True)) ∧ ((spendsB (Pt.mk x.p.tx x.p.n) x.t.ins == spendsB (Pt.mk x.p.tx x.p.n) x.t.ins) = false → true = false ∧ True ∧ True)))
theorem points_eq : pointsVC = fnS F155 f3 (bodyOf f3) pointsLS noAnn := by kernel_rfl
theorem points_vc : pointsVC := by
  intro x hx
  have h1 := hx.t
  have h2 := hx.st
  have h3 := hx.su
  have h4 : TxOk x.t := hx.t.toTxOk
  have h5 : (PP.mk (Pt.mk x.p.tx x.p.n) (Pt.mk x.q.tx x.q.n)).Ok := ⟨hx.p, hx.q⟩
  have h6 := clash_flip x.u x.t
  simp only [h1, h2, h3, h4, h5, h6, beq_self_eq_true, and_self, implies_true, Bool.and_self, Bool.true_eq_false, false_implies]
theorem points_ok : Fits F155 f3 (bodyOf f3) pointsLS noAnn := by
  constructor
  rw [← points_eq]
  exact points_vc
theorem points_has : Has prog 3 f3 (bodyOf f3) := ⟨by kernel_rfl, by kernel_rfl, by kernel_rfl⟩
end Go.Proofs.YtcglahfmnoghjaaGreatDoor

/-! TxPoints' call. Conditions: none. -/
namespace Go.Proofs.YtcglahfmnoghjaaGreatDoor
open Go Go.Eng Go.Proofs.Tryz Go.ChangeShapes Go.WideShapes Go.RowKit

theorem rd_two {H : Type} {enc : TypeId × Value → H} {P : Program} {w : World} {sp : Nat → Bool} {held : Bool} {C : Enc AA} {t e : TypeId} {F : SL AA → DataW H → Prop} (ht : P.underlying t = some (.array 2 e)) {n c : Nat} (hn : P.cellsOf t = n) (he : P.cellsOf e = c) (hc : n = c + c) (h : RdT enc P w sp held C e F) :
    RdT enc P w sp held C t fun sl _ => ∃ s1 s2 d1 d2, sl = s1.app s2 ∧ F s1 d1 ∧ F s2 d2 := by
  intro fuel cs d ps hd
  cases fuel with
  | zero => simp [DataW.trod] at hd
  | succ fuel =>
    simp only [DataW.trod, ht] at hd
    split at hd
    case isFalse => cases hd
    rename_i hl
    rw [hn, hc] at hl
    rw [Option.map_eq_some_iff] at hd
    obtain ⟨ys, h1, _⟩ := hd
    obtain ⟨h2, h3⟩ := mapM_some h1
    obtain ⟨y0, _, g0⟩ := h3 0 0 (by simp)
    obtain ⟨y1, _, g1⟩ := h3 1 1 (by simp)
    obtain ⟨s1, r1, f1⟩ := h _ _ _ _ g0
    obtain ⟨s2, r2, f2⟩ := h _ _ _ _ g1
    refine ⟨s1.app s2, ?_, s1, s2, _, _, rfl, f1, f2⟩
    have := r1.app r2
    rw [he, Nat.zero_mul, List.drop_zero, Nat.one_mul, List.take_of_length_le (l := cs.drop c) (by rw [List.length_drop]; omega), List.take_append_drop] at this
    exact this
theorem arr_of_ok {P : Program} {W : World} {r : Reach} {base : Nat} {t e : TypeId} {n : Nat} (ht : P.underlying t = some (.array n e)) {v : Value} (h : Value.okWide P W r base t v) : ∃ cs : List Value, v = .agg cs.toArray := by
  unfold Value.okWide at h
  rw [ht] at h
  obtain ⟨cs, rfl, _⟩ := h
  exact ⟨cs.toList, by simp⟩
theorem cells_two : prog.cellsOf 30 = 66 := by kernel_rfl
theorem rd_points_of {H : Type} {enc : TypeId × Value → H} {P : Program} {w : World} {sp : Nat → Bool} {held : Bool} {t e : TypeId} (ht : P.underlying t = some (.array 2 e)) (hn : P.cellsOf t = 66) (he : P.cellsOf e = 33)
    (h : RdT enc P w sp held CC e fun sl _ => ∃ p : Pt, sl = encPt p ∧ p.tx.length = 32 ∧ Byt p.tx) : RdT enc P w sp held CC t fun sl _ => ∃ p q : Pt, sl = (encPt p).app (encPt q) ∧ PtOk p ∧ PtOk q := by
  refine RdT.mono (rd_two ht hn he rfl h) ?_
  rintro sl d ⟨s1, s2, d1, d2, rfl, ⟨p, rfl, h1⟩, ⟨q, rfl, h2⟩⟩
  exact ⟨p, q, rfl, h1, h2⟩
theorem rd_points {H : Type} {enc : TypeId × Value → H} {w : World} {sp : Nat → Bool} {held : Bool} : RdT enc prog w sp held CC 30 fun sl _ => ∃ p q : Pt, sl = (encPt p).app (encPt q) ∧ PtOk p ∧ PtOk q :=
  rd_points_of underlying30 cells_two cells87 rd_point
theorem TxIs.enc {t : TxD} {n : Nat} (h : TxIs t n) (hn : n ≤ 1048576) : EncR t := { h.ok hn with
  s := fun y hy => Nat.le_trans (h.i y hy).2.1 (by omega)
  sum := Nat.le_trans h.sum (by omega) }
theorem points_calls {W : World} {vs : List Value} {x : PtsX} (hx : x.Ok) (ha : ArgsR NoO [] W CC [.agg (txRSL x.t), .agg (txRSL x.u), .agg (.run .u8 32 x.p.tx (.cell (.int .i64 x.p.n) (.run .u8 32 x.q.tx (.cell (.int .i64 x.q.n) .nil))))] vs) (hg : Glob GG NoO [] W CC) :
    Calls prog 3 vs.toArray W fun e W' => e = .returned (.bool true) ∧ Below W.heap.size W W' := by
  have hS : Sound F155 := by rw [F155_eq]; exact sound mixed known155
  exact law_calls (ee_P F155_eq) hS points_has points_ok x hx rfl rfl (fun _ _ => Nat.le_refl _) (by rw [ee_C F155_eq]; exact ha) (by rw [ee_GL F155_eq, ee_C F155_eq]; exact hg)
end Go.Proofs.YtcglahfmnoghjaaGreatDoor
