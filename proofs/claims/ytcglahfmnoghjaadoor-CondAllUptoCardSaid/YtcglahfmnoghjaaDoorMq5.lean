/- Part 5 of the texts behind the last one: what they say stands ahead of each. Conditions: none. -/
import Derived.Test.YtcglahfmnoghjaaDoorMq4
/-! Numbers laid as bytes: plain laws; what was said of the program and of the document holds. Conditions: none. -/
namespace Go.Proofs.YtcglahfmnoghjaaDoor
open Go Go.Eng Go.Proofs.Tryd

def tabL : List UInt8 := (([(0 : UInt8), (1 : UInt8), (2 : UInt8), (2 : UInt8), (3 : UInt8), (3 : UInt8), (3 : UInt8), (3 : UInt8), (4 : UInt8), (4 : UInt8), (4 : UInt8), (4 :
  UInt8), (4 : UInt8), (4 : UInt8), (4 : UInt8), (4 : UInt8), (5 : UInt8), (5 : UInt8), (5 : UInt8), (5 : UInt8), (5 : UInt8), (5 : UInt8), (5 : UInt8),
  (5 : UInt8), (5 : UInt8), (5 : UInt8), (5 : UInt8), (5 : UInt8), (5 : UInt8), (5 : UInt8), (5 : UInt8), (5 : UInt8), (6 : UInt8), (6 : UInt8), (6 :
  UInt8), (6 : UInt8), (6 : UInt8), (6 : UInt8), (6 : UInt8), (6 : UInt8), (6 : UInt8), (6 : UInt8), (6 : UInt8), (6 : UInt8), (6 : UInt8), (6 : UInt8),
  (6 : UInt8), (6 : UInt8), (6 : UInt8), (6 : UInt8), (6 : UInt8), (6 : UInt8), (6 : UInt8), (6 : UInt8), (6 : UInt8), (6 : UInt8), (6 : UInt8), (6 :
  UInt8), (6 : UInt8), (6 : UInt8), (6 : UInt8), (6 : UInt8), (6 : UInt8), (6 : UInt8)].append [(7 : UInt8), (7 : UInt8), (7 : UInt8), (7 : UInt8), (7 :
  UInt8), (7 : UInt8), (7 : UInt8), (7 : UInt8), (7 : UInt8), (7 : UInt8), (7 : UInt8), (7 : UInt8), (7 : UInt8), (7 : UInt8), (7 : UInt8), (7 : UInt8),
  (7 : UInt8), (7 : UInt8), (7 : UInt8), (7 : UInt8), (7 : UInt8), (7 : UInt8), (7 : UInt8), (7 : UInt8), (7 : UInt8), (7 : UInt8), (7 : UInt8), (7 :
  UInt8), (7 : UInt8), (7 : UInt8), (7 : UInt8), (7 : UInt8), (7 : UInt8), (7 : UInt8), (7 : UInt8), (7 : UInt8), (7 : UInt8), (7 : UInt8), (7 : UInt8),
  (7 : UInt8), (7 : UInt8), (7 : UInt8), (7 : UInt8), (7 : UInt8), (7 : UInt8), (7 : UInt8), (7 : UInt8), (7 : UInt8), (7 : UInt8), (7 : UInt8), (7 :
  UInt8), (7 : UInt8), (7 : UInt8), (7 : UInt8), (7 : UInt8), (7 : UInt8), (7 : UInt8), (7 : UInt8), (7 : UInt8), (7 : UInt8), (7 : UInt8), (7 : UInt8),
  (7 : UInt8), (7 : UInt8)]).append ([(8 : UInt8), (8 : UInt8), (8 : UInt8), (8 : UInt8), (8 : UInt8), (8 : UInt8), (8 : UInt8), (8 : UInt8), (8 :
  UInt8), (8 : UInt8), (8 : UInt8), (8 : UInt8), (8 : UInt8), (8 : UInt8), (8 : UInt8), (8 : UInt8), (8 : UInt8), (8 : UInt8), (8 : UInt8), (8 : UInt8),
  (8 : UInt8), (8 : UInt8), (8 : UInt8), (8 : UInt8), (8 : UInt8), (8 : UInt8), (8 : UInt8), (8 : UInt8), (8 : UInt8), (8 : UInt8), (8 : UInt8), (8 :
  UInt8), (8 : UInt8), (8 : UInt8), (8 : UInt8), (8 : UInt8), (8 : UInt8), (8 : UInt8), (8 : UInt8), (8 : UInt8), (8 : UInt8), (8 : UInt8), (8 : UInt8),
  (8 : UInt8), (8 : UInt8), (8 : UInt8), (8 : UInt8), (8 : UInt8), (8 : UInt8), (8 : UInt8), (8 : UInt8), (8 : UInt8), (8 : UInt8), (8 : UInt8), (8 :
  UInt8), (8 : UInt8), (8 : UInt8), (8 : UInt8), (8 : UInt8), (8 : UInt8), (8 : UInt8), (8 : UInt8), (8 : UInt8), (8 : UInt8)].append [(8 : UInt8), (8 :
  UInt8), (8 : UInt8), (8 : UInt8), (8 : UInt8), (8 : UInt8), (8 : UInt8), (8 : UInt8), (8 : UInt8), (8 : UInt8), (8 : UInt8), (8 : UInt8), (8 : UInt8),
  (8 : UInt8), (8 : UInt8), (8 : UInt8), (8 : UInt8), (8 : UInt8), (8 : UInt8), (8 : UInt8), (8 : UInt8), (8 : UInt8), (8 : UInt8), (8 : UInt8), (8 :
  UInt8), (8 : UInt8), (8 : UInt8), (8 : UInt8), (8 : UInt8), (8 : UInt8), (8 : UInt8), (8 : UInt8), (8 : UInt8), (8 : UInt8), (8 : UInt8), (8 : UInt8),
  (8 : UInt8), (8 : UInt8), (8 : UInt8), (8 : UInt8), (8 : UInt8), (8 : UInt8), (8 : UInt8), (8 : UInt8), (8 : UInt8), (8 : UInt8), (8 : UInt8), (8 :
  UInt8), (8 : UInt8), (8 : UInt8), (8 : UInt8), (8 : UInt8), (8 : UInt8), (8 : UInt8), (8 : UInt8), (8 : UInt8), (8 : UInt8), (8 : UInt8), (8 : UInt8),
  (8 : UInt8), (8 : UInt8), (8 : UInt8), (8 : UInt8), (8 : UInt8)]))
def tab8 : ByteArray := ByteArray.mk tabL.toArray

/-! ## Plain laws -/
theorem bitlen_le (n k : Nat) : bitlen n ≤ k ↔ n < 2 ^ k := by
  unfold bitlen
  split
  · rename_i h
    subst h
    exact ⟨fun _ => Nat.two_pow_pos k, fun _ => Nat.zero_le _⟩
  · rename_i h
    exact Nat.log2_lt h
theorem bitlen_shift {n k : Nat} (h : n / 2 ^ k ≠ 0) : bitlen n = bitlen (n / 2 ^ k) + k := by
  have key : ∀ j, bitlen n ≤ j ↔ bitlen (n / 2 ^ k) + k ≤ j := by
    intro j
    rw [bitlen_le]
    rcases Nat.lt_or_ge j k with hj | hj
    · constructor
      · intro h1
        exact absurd (Nat.div_eq_of_lt (Nat.lt_of_lt_of_le h1 (Nat.pow_le_pow_right (by decide) (Nat.le_of_lt hj)))) h
      · intro h1; omega
    · obtain ⟨i, rfl⟩ : ∃ i, j = i + k := ⟨j - k, by omega⟩
      rw [Nat.add_le_add_iff_right, bitlen_le, Nat.div_lt_iff_lt_mul (Nat.two_pow_pos k), Nat.pow_add]
  have h1 := (key (bitlen (n / 2 ^ k) + k)).2 (Nat.le_refl _)
  have h2 := (key (bitlen n)).1 (Nat.le_refl _)
  omega
theorem bitlen_zero : bitlen 0 = 0 := rfl
theorem bitlen_pos {n : Nat} (h : n ≠ 0) : 1 ≤ bitlen n := by
  unfold bitlen
  rw [if_neg h]
  omega
theorem digsF_len : ∀ (f n : Nat), n < 256 ^ f → (digsF f n).length = (bitlen n + 7) / 8
  | 0, n, h => by
    have h0 : n = 0 := by simpa using h
    subst h0
    rfl
  | f + 1, n, h => by
    unfold digsF
    split
    · rename_i h0
      subst h0
      rfl
    · rename_i h0
      rw [List.length_append, digsF_len f (n / 256) (by rw [Nat.pow_succ] at h; exact Nat.div_lt_of_lt_mul (by rw [Nat.mul_comm]; exact h)), List.length_singleton]
      by_cases h1 : n / 256 = 0
      · have h2 : bitlen n ≤ 8 := (bitlen_le n 8).2 (by omega)
        have h3 := bitlen_pos h0
        rw [h1, bitlen_zero]
        omega
      · have h2 := bitlen_shift (n := n) (k := 8) (by simpa using h1)
        simp only [Nat.reducePow] at h2
        omega
theorem digsF_get : ∀ (f n i : Nat), n < 256 ^ f → i < (digsF f n).length → (digsF f n).getD i 0 = ((n / 256 ^ ((digsF f n).length - 1 - i) % 256 : Nat) : Int)
  | 0, n, i, h, hi => by simp [digsF] at hi
  | f + 1, n, i, h, hi => by
    unfold digsF at hi ⊢
    split at hi
    · simp at hi
    · rename_i h0
      rw [if_neg h0]
      have hn : n / 256 < 256 ^ f := by rw [Nat.pow_succ] at h; exact Nat.div_lt_of_lt_mul (by rw [Nat.mul_comm]; exact h)
      have ih := digsF_get f (n / 256) i hn
      generalize digsF f (n / 256) = D at hi ih ⊢
      simp only [List.length_append, List.length_singleton] at hi ⊢
      rw [List.getD_eq_getElem?_getD]
      rcases Nat.lt_or_ge i D.length with hd | hd
      · rw [List.getElem?_append_left hd, ← List.getD_eq_getElem?_getD, ih hd, Nat.div_div_eq_div_mul, ← Nat.pow_succ', show D.length + 1 - 1 - i = D.length - 1 - i + 1 from by omega]
      · have e : i = D.length := by omega
        subst e
        rw [List.getElem?_append_right (Nat.le_refl _)]
        simp
theorem u64_lt {n : Int} (h : U64 n) : n.toNat < 256 ^ 8 := by
  have h1 := h.lo
  have h2 := h.hi
  have e : (256 : Nat) ^ 8 = 18446744073709551616 := by decide
  rw [e]
  omega
theorem digs_len {n : Int} (h : U64 n) : (digs n).length = (bitlen n.toNat + 7) / 8 := digsF_len 8 _ (u64_lt h)
theorem digs_le {n : Int} (h : U64 n) : (digs n).length ≤ 8 := by
  rw [digs_len h]
  have h1 := u64_lt h
  have : bitlen n.toNat ≤ 64 := (bitlen_le _ 64).2 (by simpa using h1)
  omega
theorem digs_get {n : Int} (h : U64 n) {i : Nat} (hi : i < (digs n).length) : (digs n).getD i 0 = ((n.toNat / 256 ^ ((digs n).length - 1 - i) % 256 : Nat) : Int) := digsF_get 8 _ i (u64_lt h) hi
theorem pow256 (i : Nat) : 256 ^ i = 2 ^ (8 * i) := by
  rw [Nat.pow_mul]
theorem digs_lt {n : Int} (h : U64 n) (i : Nat) : i < (digs n).length ↔ 0 < n.toNat / 256 ^ i := by
  rw [digs_len h, pow256]
  have h1 := bitlen_le n.toNat (8 * i)
  have h2 := Nat.div_pos_iff (a := n.toNat) (b := 2 ^ (8 * i))
  have h3 := Nat.two_pow_pos (8 * i)
  constructor
  · intro h4
    refine h2.2 ⟨h3, ?_⟩
    have h5 : ¬ bitlen n.toNat ≤ 8 * i := by omega
    rw [h1] at h5
    omega
  · intro h4
    have h5 := (h2.1 h4).2
    have h6 : ¬ n.toNat < 2 ^ (8 * i) := by omega
    rw [← h1] at h6
    omega
theorem digs_byte {n : Int} {y : Int} (h : y ∈ digs n) : 0 ≤ y ∧ y < 256 := by
  have key : ∀ (f n : Nat) (y : Int), y ∈ digsF f n → 0 ≤ y ∧ y < 256 := by
    intro f
    induction f with
    | zero => intro n y h; simp [digsF] at h
    | succ f ih =>
      intro n y h
      unfold digsF at h
      split at h
      · simp at h
      · rcases List.mem_append.1 h with h | h
        · exact ih _ _ h
        · simp only [List.mem_singleton] at h
          omega
  exact key 8 _ _ h
theorem shr_nat (m k : Nat) (hk : k ≤ 64) : shr .u64 (m : Int) (k : Int) = ((m / 2 ^ k : Nat) : Int) := by
  unfold shr
  have e : min (k : Int).toNat IntKind.u64.bits = k := by
    simp only [Int.toNat_natCast]
    exact Nat.min_eq_left hk
  rw [e, Int.fdiv_eq_ediv_of_nonneg _ (Int.le_of_lt (Int.pow_pos (by decide)))]
  rw [Int.natCast_ediv, Int.natCast_pow]
  rfl
theorem xor_zero {x : Int} (h1 : 0 ≤ x) (h2 : x < 256) : bitop .xor .u8 x 0 = x := by
  have e : BitVec.ofInt 8 (0 : Int) = 0#8 := by decide
  show IntKind.u8.wrap (BitVec.ofInt 8 x ^^^ BitVec.ofInt 8 0).toNat = x
  rw [e, BitVec.xor_zero, BitVec.toNat_ofInt, IntKind.wrap_u8]
  omega

/-! ## The walks -/
theorem tab_at : ∀ j, j < 256 → (tabL.getD j 0).toNat = bitlen j := of_decide_eq_true (by kernel_rfl)
theorem tab_size : tab8.size = 256 := by kernel_rfl
theorem len_leaf {q c b : Nat} (hq : q < 256) (hc : c ≤ 56) (hb : b = c + bitlen q) {cI : Int} (hcI : cI = (c : Int)) :
    (0 : Int) ≤ wr .u8 (q : Int) ∧ wr .u8 (q : Int) < ((tab8.size : Nat) : Int) ∧ inI64 (cI + wr .i64 (((tabL.getD (wr .u8 (q : Int)).toNat 0).toNat : Nat) : Int)) ∧
      ((b : Nat) : Int) = cI + wr .i64 (((tabL.getD (wr .u8 (q : Int)).toNat 0).toNat : Nat) : Int) ∧ True ∧ True := by
  have e : wr .u8 (q : Int) = q := by rw [wr8]; omega
  have h8 : bitlen q ≤ 8 := (bitlen_le q 8).2 hq
  rw [e, Int.toNat_natCast, tab_at q hq, tab_size, wr64 (by unfold inI64; omega)]
  exact ⟨by omega, by omega, by unfold inI64; omega, by omega, trivial, trivial⟩
def len64VC : Prop := ∀ (x : Int), U64 x → (decide (x ≥ (4294967296 : Int)) = true → (0 : Int) ≤ (32 : Int) ∧ (decide (shr IntKind.u64 x (32 : Int) ≥ (65536 : Int)) = true →
  (0 : Int) ≤ (16 : Int) ∧ (decide (shr IntKind.u64 (shr IntKind.u64 x (32 : Int)) (16 : Int) ≥ (256 : Int)) = true → (0 : Int) ≤ (8 : Int) ∧ (0 : Int) ≤
  wr IntKind.u8 (shr IntKind.u64 (shr IntKind.u64 (shr IntKind.u64 x (32 : Int)) (16 : Int)) (8 : Int)) ∧ wr IntKind.u8 (shr IntKind.u64 (shr IntKind.u64
  (shr IntKind.u64 x (32 : Int)) (16 : Int)) (8 : Int)) < (↑tab8.size : Int) ∧ inI64 (wr IntKind.i64 (wr IntKind.i64 ((32 : Int) + (16 : Int)) + (8 :
  Int)) + wr IntKind.i64 (↑(tabL.getD (wr IntKind.u8 (shr IntKind.u64 (shr IntKind.u64 (shr IntKind.u64 x (32 : Int)) (16 : Int)) (8 : Int))).toNat (0 :
  UInt8)).toNat : Int)) ∧ (↑(bitlen x.toNat) : Int) = wr IntKind.i64 (wr IntKind.i64 ((32 : Int) + (16 : Int)) + (8 : Int)) + wr IntKind.i64 (↑(tabL.getD
  (wr IntKind.u8 (shr IntKind.u64 (shr IntKind.u64 (shr IntKind.u64 x (32 : Int)) (16 : Int)) (8 : Int))).toNat (0 : UInt8)).toNat : Int) ∧ True ∧ True)
  ∧ (decide (shr IntKind.u64 (shr IntKind.u64 x (32 : Int)) (16 : Int) ≥ (256 : Int)) = false → (0 : Int) ≤ wr IntKind.u8 (shr IntKind.u64 (shr
  IntKind.u64 x (32 : Int)) (16 : Int)) ∧ wr IntKind.u8 (shr IntKind.u64 (shr IntKind.u64 x (32 : Int)) (16 : Int)) < (↑tab8.size : Int) ∧ inI64 (wr
  IntKind.i64 ((32 : Int) + (16 : Int)) + wr IntKind.i64 (↑(tabL.getD (wr IntKind.u8 (shr IntKind.u64 (shr IntKind.u64 x (32 : Int)) (16 : Int))).toNat
  (0 : UInt8)).toNat : Int)) ∧ (↑(bitlen x.toNat) : Int) = wr IntKind.i64 ((32 : Int) + (16 : Int)) + wr IntKind.i64 (↑(tabL.getD (wr IntKind.u8 (shr
  IntKind.u64 (shr IntKind.u64 x (32 : Int)) (16 : Int))).toNat (0 : UInt8)).toNat : Int) ∧ True ∧ True)) ∧ (decide (shr IntKind.u64 x (32 : Int) ≥
  (65536 : Int)) = false → (decide (shr IntKind.u64 x (32 : Int) ≥ (256 : Int)) = true → (0 : Int) ≤ (8 : Int) ∧ (0 : Int) ≤ wr IntKind.u8 (shr
  IntKind.u64 (shr IntKind.u64 x (32 : Int)) (8 : Int)) ∧ wr IntKind.u8 (shr IntKind.u64 (shr IntKind.u64 x (32 : Int)) (8 : Int)) < (↑tab8.size : Int) ∧
  inI64 (wr IntKind.i64 ((32 : Int) + (8 : Int)) + wr IntKind.i64 (↑(tabL.getD (wr IntKind.u8 (shr IntKind.u64 (shr IntKind.u64 x (32 : Int)) (8 :
  Int))).toNat (0 : UInt8)).toNat : Int)) ∧ (↑(bitlen x.toNat) : Int) = wr IntKind.i64 ((32 : Int) + (8 : Int)) + wr IntKind.i64 (↑(tabL.getD (wr
  IntKind.u8 (shr IntKind.u64 (shr IntKind.u64 x (32 : Int)) (8 : Int))).toNat (0 : UInt8)).toNat : Int) ∧ True ∧ True) ∧ (decide (shr IntKind.u64 x (32
  : Int) ≥ (256 : Int)) = false → (0 : Int) ≤ wr IntKind.u8 (shr IntKind.u64 x (32 : Int)) ∧ wr IntKind.u8 (shr IntKind.u64 x (32 : Int)) < (↑tab8.size :
  Int) ∧ inI64 ((32 : Int) + wr IntKind.i64 (↑(tabL.getD (wr IntKind.u8 (shr IntKind.u64 x (32 : Int))).toNat (0 : UInt8)).toNat : Int)) ∧ (↑(bitlen
  x.toNat) : Int) = (32 : Int) + wr IntKind.i64 (↑(tabL.getD (wr IntKind.u8 (shr IntKind.u64 x (32 : Int))).toNat (0 : UInt8)).toNat : Int) ∧ True ∧
  True))) ∧ (decide (x ≥ (4294967296 : Int)) = false → (decide (x ≥ (65536 : Int)) = true → (0 : Int) ≤ (16 : Int) ∧ (decide (shr IntKind.u64 x (16 :
  Int) ≥ (256 : Int)) = true → (0 : Int) ≤ (8 : Int) ∧ (0 : Int) ≤ wr IntKind.u8 (shr IntKind.u64 (shr IntKind.u64 x (16 : Int)) (8 : Int)) ∧ wr
  IntKind.u8 (shr IntKind.u64 (shr IntKind.u64 x (16 : Int)) (8 : Int)) < (↑tab8.size : Int) ∧ inI64 (wr IntKind.i64 (wr IntKind.i64 ((0 : Int) + (16 :
  Int)) + (8 : Int)) + wr IntKind.i64 (↑(tabL.getD (wr IntKind.u8 (shr IntKind.u64 (shr IntKind.u64 x (16 : Int)) (8 : Int))).toNat (0 : UInt8)).toNat :
  Int)) ∧ (↑(bitlen x.toNat) : Int) = wr IntKind.i64 (wr IntKind.i64 ((0 : Int) + (16 : Int)) + (8 : Int)) + wr IntKind.i64 (↑(tabL.getD (wr IntKind.u8
  (shr IntKind.u64 (shr IntKind.u64 x (16 : Int)) (8 : Int))).toNat (0 : UInt8)).toNat : Int) ∧ True ∧ True) ∧ (decide (shr IntKind.u64 x (16 : Int) ≥
  (256 : Int)) = false → (0 : Int) ≤ wr IntKind.u8 (shr IntKind.u64 x (16 : Int)) ∧ wr IntKind.u8 (shr IntKind.u64 x (16 : Int)) < (↑tab8.size : Int) ∧
  inI64 (wr IntKind.i64 ((0 : Int) + (16 : Int)) + wr IntKind.i64 (↑(tabL.getD (wr IntKind.u8 (shr IntKind.u64 x (16 : Int))).toNat (0 : UInt8)).toNat :
  Int)) ∧ (↑(bitlen x.toNat) : Int) = wr IntKind.i64 ((0 : Int) + (16 : Int)) + wr IntKind.i64 (↑(tabL.getD (wr IntKind.u8 (shr IntKind.u64 x (16 :
  Int))).toNat (0 : UInt8)).toNat : Int) ∧ True ∧ True)) ∧ (decide (x ≥ (65536 : Int)) = false → (decide (x ≥ (256 : Int)) = true → (0 : Int) ≤ (8 : Int)
  ∧ (0 : Int) ≤ wr IntKind.u8 (shr IntKind.u64 x (8 : Int)) ∧ wr IntKind.u8 (shr IntKind.u64 x (8 : Int)) < (↑tab8.size : Int) ∧ inI64 (wr IntKind.i64
  ((0 : Int) + (8 : Int)) + wr IntKind.i64 (↑(tabL.getD (wr IntKind.u8 (shr IntKind.u64 x (8 : Int))).toNat (0 : UInt8)).toNat : Int)) ∧ (↑(bitlen
  x.toNat) : Int) = wr IntKind.i64 ((0 : Int) + (8 : Int)) + wr IntKind.i64 (↑(tabL.getD (wr IntKind.u8 (shr IntKind.u64 x (8 : Int))).toNat (0 :
  UInt8)).toNat : Int) ∧ True ∧ True) ∧ (decide (x ≥ (256 : Int)) = false → (0 : Int) ≤ wr IntKind.u8 x ∧ wr IntKind.u8 x < (↑tab8.size : Int) ∧ inI64
  ((0 : Int) + wr IntKind.i64 (↑(tabL.getD (wr IntKind.u8 x).toNat (0 : UInt8)).toNat : Int)) ∧ (↑(bitlen x.toNat) : Int) = (0 : Int) + wr IntKind.i64
  (↑(tabL.getD (wr IntKind.u8 x).toNat (0 : UInt8)).toNat : Int) ∧ True ∧ True)))

theorem len64_eq : len64VC = fnS E49 f128 (bodyOf f128) len64LS noAnn := by kernel_rfl
theorem len64_vc : len64VC := by
  intro x hx
  obtain ⟨m, rfl⟩ : ∃ m : Nat, x = m := ⟨x.toNat, by have := hx.lo; omega⟩
  have hm : m < 18446744073709551616 := by have := hx.hi; omega
  have s32 : ∀ q : Nat, shr .u64 (q : Int) 32 = ((q / 4294967296 : Nat) : Int) := fun q => shr_nat q 32 (by decide)
  have s16 : ∀ q : Nat, shr .u64 (q : Int) 16 = ((q / 65536 : Nat) : Int) := fun q => shr_nat q 16 (by decide)
  have s8 : ∀ q : Nat, shr .u64 (q : Int) 8 = ((q / 256 : Nat) : Int) := fun q => shr_nat q 8 (by decide)
  have b32 : ∀ q : Nat, 4294967296 ≤ q → bitlen q = bitlen (q / 4294967296) + 32 := fun q h => bitlen_shift (n := q) (k := 32) (by show q / 4294967296 ≠ 0; omega)
  have b16 : ∀ q : Nat, 65536 ≤ q → bitlen q = bitlen (q / 65536) + 16 := fun q h => bitlen_shift (n := q) (k := 16) (by show q / 65536 ≠ 0; omega)
  have b8 : ∀ q : Nat, 256 ≤ q → bitlen q = bitlen (q / 256) + 8 := fun q h => bitlen_shift (n := q) (k := 8) (by show q / 256 ≠ 0; omega)
  simp only [s32, s16, s8, Int.toNat_natCast, decide_eq_true_eq, decide_eq_false_iff_not]
  refine ⟨fun h1 => ⟨by decide, fun h2 => ⟨by decide, fun h3 => ⟨by decide, ?_⟩, fun h3 => ?_⟩, fun h2 => ⟨fun h3 => ⟨by decide, ?_⟩, fun h3 => ?_⟩⟩, fun h1 => ⟨fun h2 => ⟨by decide, fun h3 => ⟨by decide, ?_⟩, fun h3 => ?_⟩, fun h2 => ⟨fun h3 => ⟨by decide, ?_⟩, fun h3 => ?_⟩⟩⟩
  · have e1 := b32 m (by omega)
    have e2 := b16 (m / 4294967296) (by omega)
    have e3 := b8 (m / 4294967296 / 65536) (by omega)
    exact len_leaf (c := 56) (by omega) (by decide) (by omega) (by decide)
  · have e1 := b32 m (by omega)
    have e2 := b16 (m / 4294967296) (by omega)
    exact len_leaf (c := 48) (by omega) (by decide) (by omega) (by decide)
  · have e1 := b32 m (by omega)
    have e3 := b8 (m / 4294967296) (by omega)
    exact len_leaf (c := 40) (by omega) (by decide) (by omega) (by decide)
  · have e1 := b32 m (by omega)
    exact len_leaf (c := 32) (by omega) (by decide) (by omega) (by decide)
  · have e2 := b16 m (by omega)
    have e3 := b8 (m / 65536) (by omega)
    exact len_leaf (c := 24) (by omega) (by decide) (by omega) (by decide)
  · have e2 := b16 m (by omega)
    exact len_leaf (c := 16) (by omega) (by decide) (by omega) (by decide)
  · have e3 := b8 m (by omega)
    exact len_leaf (c := 8) (by omega) (by decide) (by omega) (by decide)
  · exact len_leaf (c := 0) (by omega) (by decide) (by omega) (by decide)
theorem len64_ok : Fits E49 f128 (bodyOf f128) len64LS noAnn := by
  constructor
  rw [← len64_eq]
  exact len64_vc
theorem f128_has : Has prog 128 f128 (bodyOf f128) := ⟨by kernel_rfl, by kernel_rfl, by kernel_rfl⟩
theorem known60 : Known prog L60 := by
  unfold L60
  exact known49.lent mixed f128_has E49_eq len64_ok (fun _ _ => Nat.le_refl _) (fun _ _ => rfl)
def widthVC : Prop := ∀ (x : Int), U64 x → x = x ∧ True ∧ U64 x ∧ inI64 ((↑(bitlen x.toNat) : Int) + (7 : Int)) ∧ (8 : Int) ≠ (0 : Int) ∧ (↑(digs x).length : Int) = wr
  IntKind.i64 (((↑(bitlen x.toNat) : Int) + (7 : Int)).tdiv (8 : Int)) ∧ True ∧ True

theorem width_eq : widthVC = fnS E60 f98 (bodyOf f98) widthLS noAnn := by kernel_rfl
theorem width_vc : widthVC := by
  intro x hx
  have h1 : bitlen x.toNat ≤ 64 := (bitlen_le _ 64).2 (by simpa using u64_lt hx)
  refine ⟨rfl, trivial, hx, by unfold inI64; omega, by decide, ?_, trivial, trivial⟩
  rw [digs_len hx]
  have e : ((bitlen x.toNat : Nat) : Int) + 7 = ((bitlen x.toNat + 7 : Nat) : Int) := by omega
  rw [e, show ((bitlen x.toNat + 7 : Nat) : Int).tdiv 8 = (((bitlen x.toNat + 7) / 8 : Nat) : Int) from rfl, wr64 (by unfold inI64; omega)]
theorem width_ok : Fits E60 f98 (bodyOf f98) widthLS noAnn := by
  constructor
  rw [← width_eq]
  exact width_vc
theorem f98_has : Has prog 98 f98 (bodyOf f98) := ⟨by kernel_rfl, by kernel_rfl, by kernel_rfl⟩
theorem known61 : Known prog L61 := by
  unfold L61
  exact known60.lent mixed f98_has E60_eq width_ok (fun _ _ => Nat.le_refl _) (fun _ _ => rfl)
theorem digs_code {n : Int} (hn : U64 n) {i : Nat} (hi : i < (digs n).length) : bitop .xor .u8 (wr .u8 (shr .u64 n (8 * (((digs n).length : Int) - 1 - (i : Int))))) 0 = (digs n).getD i 0 := by
  have h8 := digs_le hn
  obtain ⟨m, rfl⟩ : ∃ m : Nat, n = m := ⟨n.toNat, by have := hn.lo; omega⟩
  rw [digs_get hn hi, Int.toNat_natCast]
  have e : 8 * (((digs (m : Int)).length : Int) - 1 - (i : Int)) = ((8 * ((digs (m : Int)).length - 1 - i) : Nat) : Int) := by omega
  rw [e, shr_nat _ _ (by omega), ← pow256, wr8, xor_zero (Int.emod_nonneg _ (by decide)) (Int.emod_lt_of_pos _ (by decide))]
  omega
def highVC : Prop := ∀ (x : BN), x.Ok → x.n = x.n ∧ True ∧ U64 x.n ∧ inI64 ((↑(digs x.n).length : Int) - (1 : Int)) ∧ (∃ x_1, Nat.le x_1 (digs x.n).length ∧ (True ∧ (↑(digs
  x.n).length : Int) - (1 : Int) - (↑x_1 : Int) = (↑(digs x.n).length : Int) - (1 : Int)) ∧ True ∧ x.xs ++ List.take x_1 (digs x.n) = x.xs ∧ True) ∧ ∀
  (x_1 : Nat), x_1.le (digs x.n).length → (decide ((↑(digs x.n).length : Int) - (1 : Int) - (↑x_1 : Int) ≥ (0 : Int)) = true → inI64 ((8 : Int) *
  ((↑(digs x.n).length : Int) - (1 : Int) - (↑x_1 : Int))) ∧ (0 : Int) ≤ (8 : Int) * ((↑(digs x.n).length : Int) - (1 : Int) - (↑x_1 : Int)) ∧ ((x.xs ++
  List.take x_1 (digs x.n)).length + [bitop BinOp.xor IntKind.u8 (wr IntKind.u8 (shr IntKind.u64 x.n ((8 : Int) * ((↑(digs x.n).length : Int) - (1 : Int)
  - (↑x_1 : Int))))) (0 : Int)].length) * (1 : Nat) ≤ (140737488355328 : Nat) ∧ (x.xs ++ List.take x_1 (digs x.n)).length + [bitop BinOp.xor IntKind.u8
  (wr IntKind.u8 (shr IntKind.u64 x.n ((8 : Int) * ((↑(digs x.n).length : Int) - (1 : Int) - (↑x_1 : Int))))) (0 : Int)].length ≤ (1152921504606846976 :
  Nat) ∧ inI64 ((↑(digs x.n).length : Int) - (1 : Int) - (↑x_1 : Int) - (1 : Int)) ∧ ∃ y, Nat.le y (digs x.n).length ∧ (digs x.n).length - y < (digs
  x.n).length - x_1 ∧ (True ∧ (↑(digs x.n).length : Int) - (1 : Int) - (↑y : Int) = (↑(digs x.n).length : Int) - (1 : Int) - (↑x_1 : Int) - (1 : Int)) ∧
  True ∧ x.xs ++ List.take y (digs x.n) = x.xs ++ List.take x_1 (digs x.n) ++ [bitop BinOp.xor IntKind.u8 (wr IntKind.u8 (shr IntKind.u64 x.n ((8 : Int)
  * ((↑(digs x.n).length : Int) - (1 : Int) - (↑x_1 : Int))))) (0 : Int)] ∧ True) ∧ (decide ((↑(digs x.n).length : Int) - (1 : Int) - (↑x_1 : Int) ≥ (0 :
  Int)) = false → True ∧ True ∧ x.xs ++ digs x.n = x.xs ++ List.take x_1 (digs x.n) ∧ True)

theorem high_eq : highVC = fnS E61 f97 (bodyOf f97) highLS highAnn := by kernel_rfl
theorem high_vc : highVC := by
  rintro ⟨xs, n⟩ ⟨hl, hn⟩
  simp only at hl hn
  have h8 := digs_le hn
  simp only [true_and, and_true, decide_eq_true_eq, decide_eq_false_iff_not, List.length_append, List.length_singleton, List.length_take]
  refine ⟨hn, by unfold inI64; omega, ⟨0, Nat.zero_le _, by omega, by simp⟩, fun i hi => ⟨fun h => ?_, fun h => ?_⟩⟩
  · have hi' : i < (digs n).length := by omega
    refine ⟨by unfold inI64; omega, by omega, by omega, by omega, by unfold inI64; omega, i + 1, hi', by omega, by omega, ?_⟩
    rw [digs_code hn hi', take_up hi' rfl, List.append_assoc]
  · have hi' : (digs n).length ≤ i := by omega
    rw [List.take_of_length_le hi']
theorem high_ok : Fits E61 f97 (bodyOf f97) highLS highAnn := by
  constructor
  rw [← high_eq]
  exact high_vc
theorem f97_has : Has prog 97 f97 (bodyOf f97) := ⟨by kernel_rfl, by kernel_rfl, by kernel_rfl⟩
theorem known62 : Known prog L62 := by
  unfold L62
  exact known61.lent mixed f97_has E61_eq high_ok (fun _ _ => by simp [highLS]) (fun h => by cases h)
def wnewVC : Prop := ∀ (_ : Unit), True → True ∧ True ∧ ((SV.val (A := AA) (Value.slice none (0 : Nat) (0 : Nat)) : SV AA) = SV.val (A := AA) (Value.slice none (0 : Nat) (0
  : Nat)) ∧ True) ∧ True

theorem wnew_eq : wnewVC = fnS E62 f56 (bodyOf f56) newLS noAnn := by kernel_rfl
theorem wnew_ok : Fits E62 f56 (bodyOf f56) newLS noAnn := by
  constructor
  rw [← wnew_eq]
  exact fun _ _ => ⟨trivial, trivial, ⟨rfl, trivial⟩, trivial⟩
theorem f56_has : Has prog 56 f56 (bodyOf f56) := ⟨by kernel_rfl, by kernel_rfl, by kernel_rfl⟩
theorem known63 : Known prog L63 := by
  unfold L63
  exact known62.lent mixed f56_has E62_eq wnew_ok (fun _ _ => Nat.zero_le _) (fun _ _ => rfl)
def wUintVC : Prop := ∀ (x : BN), x.Low → x.n = x.n ∧ True ∧ U64 x.n ∧ (x.xs.length + [wr IntKind.u8 (↑(digs x.n).length : Int)].length) * (1 : Nat) ≤ (140737488355328 :
  Nat) ∧ x.xs.length + [wr IntKind.u8 (↑(digs x.n).length : Int)].length ≤ (1152921504606846976 : Nat) ∧ (True ∧ x.n = x.n ∧ (0 : Int) = (0 : Int)) ∧
  (x.xs ++ [wr IntKind.u8 (↑(digs x.n).length : Int)] = x.xs ++ [wr IntKind.u8 (↑(digs x.n).length : Int)] ∧ True) ∧ (BN.mk (x.xs ++ [wr IntKind.u8
  (↑(digs x.n).length : Int)]) x.n).Ok ∧ True ∧ ((True ∧ True) ∧ True) ∧ x.xs ++ uintB x.n = x.xs ++ [wr IntKind.u8 (↑(digs x.n).length : Int)] ++ digs
  x.n ∧ True

theorem wUint_eq : wUintVC = fnS E63 f57 (bodyOf f57) wUintLS noAnn := by kernel_rfl
theorem wUint_vc : wUintVC := by
  rintro ⟨xs, n⟩ ⟨hl, hn⟩
  simp only at hl hn
  have h8 := digs_le hn
  have e : wr .u8 ((digs n).length : Int) = ((digs n).length : Int) := by rw [wr8]; omega
  simp only [e, true_and, and_true, List.length_singleton, uintB, List.append_assoc, List.singleton_append]
  exact ⟨hn, by omega, by omega, ⟨by simp only [List.length_append, List.length_singleton]; omega, hn⟩⟩
theorem wUint_ok : Fits E63 f57 (bodyOf f57) wUintLS noAnn := by
  constructor
  rw [← wUint_eq]
  exact wUint_vc
theorem f57_has : Has prog 57 f57 (bodyOf f57) := ⟨by kernel_rfl, by kernel_rfl, by kernel_rfl⟩
theorem known64 : Known prog L64 := by
  unfold L64
  exact known63.lent mixed f57_has E63_eq wUint_ok (fun _ _ => by simp [wUintLS]) (fun h => by cases h)
def wHashVC : Prop := ∀ (x : BH), x.Ok → (x.xs.length + x.h.length) * (1 : Nat) ≤ (140737488355328 : Nat) ∧ x.xs.length + x.h.length ≤ (1152921504606846976 : Nat) ∧ True ∧
  ((True ∧ True) ∧ True) ∧ x.xs ++ x.h = x.xs ++ x.h ∧ True

theorem wHash_eq : wHashVC = fnS E64 f58 (bodyOf f58) wHashLS noAnn := by kernel_rfl
theorem wHash_vc : wHashVC := by
  rintro ⟨xs, h⟩ ⟨hl, hh⟩
  simp only at hl hh
  exact ⟨by simp only; omega, by simp only; omega, trivial, ⟨⟨trivial, trivial⟩, trivial⟩, rfl, trivial⟩
theorem wHash_ok : Fits E64 f58 (bodyOf f58) wHashLS noAnn := by
  constructor
  rw [← wHash_eq]
  exact wHash_vc
theorem f58_has : Has prog 58 f58 (bodyOf f58) := ⟨by kernel_rfl, by kernel_rfl, by kernel_rfl⟩
theorem known65 : Known prog L65 := by
  unfold L65
  exact known64.lent mixed f58_has E64_eq wHash_ok (fun _ _ => by simp [wHashLS]) (fun h => by cases h)
def cloneUVC : Prop := ∀ (x : List Int), x.length.le (1099511627776 : Nat) → ∀ (b : Bool), (x ≠ [] → b = false) → (b = true → (SV.val (A := AA) (Value.slice none (0 : Nat) (0
  : Nat)) : SV AA) = SV.val (A := AA) (Value.slice none (0 : Nat) (0 : Nat)) ∧ True ∧ x = [] ∧ True) ∧ (b = false → (([] : List Int).length + x.length) *
  (1 : Nat) ≤ (140737488355328 : Nat) ∧ ([] : List Int).length + x.length ≤ (1152921504606846976 : Nat) ∧ True ∧ True ∧ x = [] ++ x ∧ True)

theorem cloneU_eq : cloneUVC = fnS E65 f100 (bodyOf f100) cloneULS noAnn := by kernel_rfl
theorem cloneU_vc : cloneUVC := by
  intro x hx b hb
  have hx' : x.length ≤ 1099511627776 := hx
  refine ⟨fun h => ⟨rfl, trivial, Classical.byContradiction fun hne => ?_, trivial⟩, fun _ => ⟨?_, ?_, trivial, trivial, rfl, trivial⟩⟩
  · have := hb hne
    rw [h] at this
    cases this
  · simp only [List.length_nil]; omega
  · simp only [List.length_nil]; omega
theorem cloneU_ok : Fits E65 f100 (bodyOf f100) cloneULS noAnn := by
  constructor
  rw [← cloneU_eq]
  exact cloneU_vc
theorem f100_has : Has prog 100 f100 (bodyOf f100) := ⟨by kernel_rfl, by kernel_rfl, by kernel_rfl⟩
theorem known66 : Known prog L66 := by
  unfold L66
  exact known65.lent mixed f100_has E65_eq cloneU_ok (fun _ _ => Nat.zero_le _) (fun _ _ => rfl)
def wDoneVC : Prop := ∀ (x : List Int), x.length.le (1099511627776 : Nat) → x = x ∧ True ∧ x.length.le (1099511627776 : Nat) ∧ True ∧ ((True ∧ True) ∧ x = x ∧ True) ∧ x = x
  ∧ True

theorem wDone_eq : wDoneVC = fnS E66 f60 (bodyOf f60) wDoneLS noAnn := by kernel_rfl
theorem wDone_ok : Fits E66 f60 (bodyOf f60) wDoneLS noAnn := by
  constructor
  rw [← wDone_eq]
  exact fun _ hx => ⟨rfl, trivial, hx, trivial, ⟨⟨trivial, trivial⟩, rfl, trivial⟩, rfl, trivial⟩
theorem f60_has : Has prog 60 f60 (bodyOf f60) := ⟨by kernel_rfl, by kernel_rfl, by kernel_rfl⟩
theorem known67 : Known prog L67 := by
  unfold L67
  exact known66.lent mixed f60_has E66_eq wDone_ok (fun _ _ => by simp [wDoneLS]) (fun h => by cases h)
def growVC : Prop := ∀ (x : Int), (0 : Int) ≤ x ∧ x ≤ (1099511627776 : Int) → (decide (x < (0 : Int)) = true → False) ∧ (decide (x < (0 : Int)) = false → inI64 (x - wr
  IntKind.i64 ((0 : Int) - (0 : Int))) ∧ (decide (x - wr IntKind.i64 ((0 : Int) - (0 : Int)) > (0 : Int)) = true → (0 : Int) ≤ x - wr IntKind.i64 ((0 :
  Int) - (0 : Int)) ∧ (x - wr IntKind.i64 ((0 : Int) - (0 : Int))) * (↑(1 : Nat) : Int) ≤ (140737488355328 : Int) ∧ x - wr IntKind.i64 ((0 : Int) - (0 :
  Int)) ≤ (1152921504606846976 : Int) ∧ (0 : Int) ≤ (0 : Int) ∧ (0 : Int) ≤ (↑(List.replicate (x - wr IntKind.i64 ((0 : Int) - (0 : Int))).toNat (0 :
  Int)).length : Int) ∧ True ∧ True ∧ [] = List.take (Int.toNat (0 : Int)) (List.replicate (x - wr IntKind.i64 ((0 : Int) - (0 : Int))).toNat (0 : Int))
  ∧ True) ∧ (decide (x - wr IntKind.i64 ((0 : Int) - (0 : Int)) > (0 : Int)) = false → (SV.val (A := AA) (Value.slice none (0 : Nat) (0 : Nat)) : SV AA)
  = SV.val (A := AA) (Value.slice none (0 : Nat) (0 : Nat)) ∧ True ∧ ([] : List Int) = [] ∧ True))

theorem grow_eq : growVC = fnS E67 f99 (bodyOf f99) growLS noAnn := by kernel_rfl
theorem grow_vc : growVC := by
  rintro x ⟨h1, h2⟩
  have e : wr .i64 0 = 0 := by decide
  simp only [Int.sub_zero, e, true_and, and_true, decide_eq_true_eq, decide_eq_false_iff_not]
  refine ⟨fun h => by omega, fun _ => ⟨by unfold inI64; omega, fun h => ⟨h1, by omega, by omega, by decide, by simp; omega⟩, fun _ => trivial⟩⟩
theorem grow_ok : Fits E67 f99 (bodyOf f99) growLS noAnn := by
  constructor
  rw [← grow_eq]
  exact grow_vc
theorem f99_has : Has prog 99 f99 (bodyOf f99) := ⟨by kernel_rfl, by kernel_rfl, by kernel_rfl⟩
theorem known68 : Known prog L68 := by
  unfold L68
  exact known67.lent mixed f99_has E67_eq grow_ok (fun _ _ => Nat.zero_le _) (fun _ _ => rfl)
theorem flat_append : ∀ (a b : List (List Int)), flat (a ++ b) = flat a ++ flat b
  | [], b => rfl
  | x :: a, b => by simp [flat, flat_append a b]
theorem flat_take {l : List (List Int)} {i : Nat} {y : List Int} (h : l[i]? = some y) : flat (l.take (i + 1)) = flat (l.take i) ++ y := by
  rw [List.take_add_one, h, flat_append]
  simp [flat]
theorem flat_le (l : List (List Int)) (i : Nat) : (flat (l.take i)).length ≤ (flat l).length := by
  have h := congrArg (fun x => (flat x).length) (List.take_append_drop i l)
  simp only [flat_append, List.length_append] at h
  omega
def concatVC : Prop := ∀ (x : List (List Int)), LL x → (↑x.length : Int) ≤ (9223372036854775807 : Int) → (∃ x_1, Nat.le x_1 x.length ∧ ((↑x_1 : Int) = (0 : Int) ∧ (↑(flat
  (List.take x_1 x)).length : Int) = (0 : Int)) ∧ True ∧ True) ∧ ∀ (x_1 : Nat), x_1.le x.length → (decide ((↑x_1 : Int) < (↑x.length : Int)) = true → (0
  : Int) ≤ (↑x_1 : Int) ∧ (↑x_1 : Int) < (↑x.length : Int) ∧ ∀ (y : AA (26 : Nat)), x[(↑x_1 : Int).toNat]? = some y → (↑(List.length y) : Int) ≤
  (9223372036854775807 : Int) → inI64 ((↑(flat (List.take x_1 x)).length : Int) + (↑(List.length y) : Int)) ∧ (decide ((↑(flat (List.take x_1 x)).length
  : Int) + (↑(List.length y) : Int) < (0 : Int)) = true → False) ∧ (decide ((↑(flat (List.take x_1 x)).length : Int) + (↑(List.length y) : Int) < (0 :
  Int)) = false → inI64 ((↑x_1 : Int) + (1 : Int)) ∧ ∃ y_1, Nat.le y_1 x.length ∧ x.length - y_1 < x.length - x_1 ∧ ((↑y_1 : Int) = (↑x_1 : Int) + (1 :
  Int) ∧ (↑(flat (List.take y_1 x)).length : Int) = (↑(flat (List.take x_1 x)).length : Int) + (↑(List.length y) : Int)) ∧ True ∧ True)) ∧ (decide ((↑x_1
  : Int) < (↑x.length : Int)) = false → ((SV.val (A := AA) (Value.slice none (0 : Nat) (0 : Nat)) : SV AA) = SV.val (A := AA) (Value.slice none (0 : Nat)
  (0 : Nat)) ∧ (↑(flat (List.take x_1 x)).length : Int) = (↑(flat (List.take x_1 x)).length : Int)) ∧ True ∧ ((0 : Int) ≤ (↑(flat (List.take x_1
  x)).length : Int) ∧ (↑(flat (List.take x_1 x)).length : Int) ≤ (1099511627776 : Int)) ∧ ((↑x.length : Int) ≤ (9223372036854775807 : Int) → (∃ x_2,
  Nat.le x_2 x.length ∧ ((↑x_2 : Int) = (0 : Int) ∧ True) ∧ True ∧ flat (List.take x_2 x) = [] ∧ True) ∧ ∀ (x_2 : Nat), x_2.le x.length → (decide ((↑x_2
  : Int) < (↑x.length : Int)) = true → (0 : Int) ≤ (↑x_2 : Int) ∧ (↑x_2 : Int) < (↑x.length : Int) ∧ ∀ (y : AA (26 : Nat)), x[(↑x_2 : Int).toNat]? = some
  y → ((flat (List.take x_2 x)).length + List.length y) * (1 : Nat) ≤ (140737488355328 : Nat) ∧ (flat (List.take x_2 x)).length + List.length y ≤
  (1152921504606846976 : Nat) ∧ inI64 ((↑x_2 : Int) + (1 : Int)) ∧ ∃ y_1, Nat.le y_1 x.length ∧ x.length - y_1 < x.length - x_2 ∧ ((↑y_1 : Int) = (↑x_2 :
  Int) + (1 : Int) ∧ True) ∧ True ∧ flat (List.take y_1 x) = flat (List.take x_2 x) ++ (show List Int from y) ∧ True) ∧ (decide ((↑x_2 : Int) < (↑x.length : Int)) = false →
  True ∧ True ∧ flat x = flat (List.take x_2 x) ∧ True)))

theorem concat_eq : concatVC = fnS E68 f59 (bodyOf f59) concatLS concatAnn := by kernel_rfl
theorem concat_vc : concatVC := by
  rintro l ⟨h1, h2⟩
  simp only [true_and, and_true, decide_eq_true_eq, decide_eq_false_iff_not, Int.toNat_natCast]
  have len : ∀ {i : Nat} {y : List Int}, l[i]? = some y → (flat (l.take i)).length + y.length ≤ 1099511627776 := fun {i y} hy => by
    have h3 := flat_le l (i + 1)
    rw [flat_take hy, List.length_append] at h3
    omega
  refine fun _ => ⟨⟨0, Nat.zero_le _, rfl, by simp [flat]⟩, fun i hi => ⟨fun h => ?_, fun h => ?_⟩⟩
  · have hi' : i < l.length := by omega
    refine ⟨by omega, by omega, fun y hy _ => ?_⟩
    have h3 := len (y := y) hy
    replace h3 : (flat (l.take i)).length + @List.length Int y ≤ 1099511627776 := h3
    refine ⟨by unfold inI64; omega, fun h4 => by omega, fun _ => ⟨by unfold inI64; omega, i + 1, hi', by omega, by omega, ?_⟩⟩
    have h6 : (flat (l.take (i + 1))).length = (flat (l.take i)).length + @List.length Int y := (congrArg List.length (flat_take (y := y) hy)).trans List.length_append
    omega
  · have h3 := flat_le l i
    refine ⟨⟨by omega, by omega⟩, fun _ => ⟨⟨0, Nat.zero_le _, rfl, rfl⟩, fun k hk => ⟨fun h4 => ?_, fun h4 => ?_⟩⟩⟩
    · have hk' : k < l.length := by omega
      refine ⟨by omega, by omega, fun y hy => ?_⟩
      have h5 := len (y := y) hy
      replace h5 : (flat (l.take k)).length + @List.length Int y ≤ 1099511627776 := h5
      exact ⟨by omega, by omega, by unfold inI64; omega, k + 1, hk', by omega, by omega, flat_take (y := y) hy⟩
    · rw [List.take_of_length_le (by omega)]
theorem concat_ok : Fits E68 f59 (bodyOf f59) concatLS concatAnn := by
  constructor
  rw [← concat_eq]
  exact concat_vc
theorem f59_has : Has prog 59 f59 (bodyOf f59) := ⟨by kernel_rfl, by kernel_rfl, by kernel_rfl⟩
theorem known69 : Known prog L69 := by
  unfold L69
  exact known68.lent mixed f59_has E68_eq concat_ok (fun _ _ => Nat.zero_le _) (fun _ _ => rfl)
/-! ## The document's -/
theorem digs_step {n : Int} (hn : U64 n) {i : Nat} (hi : i < (digs n).length) :
    (digs n).drop ((digs n).length - (i + 1)) = [((n.toNat / 256 ^ i % 256 : Nat) : Int)] ++ (digs n).drop ((digs n).length - i) := by
  have hj : (digs n).length - (i + 1) < (digs n).length := by omega
  rw [drop_cons' hj, digs_get hn hj, show (digs n).length - 1 - ((digs n).length - (i + 1)) = i from by omega, show (digs n).length - (i + 1) + 1 = (digs n).length - i from by omega]
  rfl
def digitsVC : Prop := ∀ (x : Int), U64 x → (∃ x_1, Nat.le x_1 (digs x).length ∧ ((↑(x.toNat / (256 : Nat) ^ x_1) : Int) = x ∧ List.drop ((digs x).length - x_1) (digs x) =
  []) ∧ True ∧ True) ∧ ∀ (x_1 : Nat), x_1.le (digs x).length → (decide ((↑(x.toNat / (256 : Nat) ^ x_1) : Int) > (0 : Int)) = true → (256 : Int) ≠ (0 :
  Int) ∧ [wr IntKind.u8 ((↑(x.toNat / (256 : Nat) ^ x_1) : Int).tmod (256 : Int))].length * (1 : Nat) ≤ (140737488355328 : Nat) ∧ [wr IntKind.u8
  ((↑(x.toNat / (256 : Nat) ^ x_1) : Int).tmod (256 : Int))].length ≤ (1152921504606846976 : Nat) ∧ ([wr IntKind.u8 ((↑(x.toNat / (256 : Nat) ^ x_1) :
  Int).tmod (256 : Int))].length + (List.drop ((digs x).length - x_1) (digs x)).length) * (1 : Nat) ≤ (140737488355328 : Nat) ∧ [wr IntKind.u8
  ((↑(x.toNat / (256 : Nat) ^ x_1) : Int).tmod (256 : Int))].length + (List.drop ((digs x).length - x_1) (digs x)).length ≤ (1152921504606846976 : Nat) ∧
  (256 : Int) ≠ (0 : Int) ∧ ∃ y, Nat.le y (digs x).length ∧ (digs x).length - y < (digs x).length - x_1 ∧ ((↑(x.toNat / (256 : Nat) ^ y) : Int) = wr
  IntKind.u64 ((↑(x.toNat / (256 : Nat) ^ x_1) : Int).tdiv (256 : Int)) ∧ List.drop ((digs x).length - y) (digs x) = [wr IntKind.u8 ((↑(x.toNat / (256 :
  Nat) ^ x_1) : Int).tmod (256 : Int))] ++ List.drop ((digs x).length - x_1) (digs x)) ∧ True ∧ True) ∧ (decide ((↑(x.toNat / (256 : Nat) ^ x_1) : Int) >
  (0 : Int)) = false → digs x = List.drop ((digs x).length - x_1) (digs x) ∧ True ∧ True)

theorem digits_eq : digitsVC = fnS E69 f101 (bodyOf f101) digitsLS digitsAnn := by kernel_rfl
theorem digits_vc : digitsVC := by
  intro n hn
  have h8 := digs_le hn
  have h0 := hn.lo
  have h1 := hn.hi
  have key : ∀ q : Nat, q < 18446744073709551616 → wr .u8 ((q : Int).tmod 256) = ((q % 256 : Nat) : Int) ∧ wr .u64 ((q : Int).tdiv 256) = ((q / 256 : Nat) : Int) := fun q hq => by
    rw [wr8, wr64u, show (q : Int).tmod 256 = ((q % 256 : Nat) : Int) from rfl, show (q : Int).tdiv 256 = ((q / 256 : Nat) : Int) from rfl]
    omega
  simp only [true_and, and_true, decide_eq_true_eq, decide_eq_false_iff_not, List.length_singleton, List.length_drop]
  refine ⟨⟨0, Nat.zero_le _, by simp; omega, by simp⟩, fun i hi => ⟨fun h => ?_, fun h => ?_⟩⟩
  · have hq : n.toNat / 256 ^ i < 18446744073709551616 := Nat.lt_of_le_of_lt (Nat.div_le_self _ _) (by omega)
    obtain ⟨k1, k2⟩ := key _ hq
    have hi' : i < (digs n).length := (digs_lt hn i).2 (by omega)
    rw [k1, k2]
    refine ⟨by decide, by decide, by decide, by omega, by omega, by decide, i + 1, hi', by omega, ?_, digs_step hn hi'⟩
    rw [Nat.pow_succ, Nat.div_div_eq_div_mul]
  · have hi' : ¬ i < (digs n).length := fun h2 => by have := (digs_lt hn i).1 h2; omega
    rw [show (digs n).length - i = 0 from by omega, List.drop_zero]
theorem digits_ok : Fits E69 f101 (bodyOf f101) digitsLS digitsAnn := by
  constructor
  rw [← digits_eq]
  exact digits_vc
theorem f101_has : Has prog 101 f101 (bodyOf f101) := ⟨by kernel_rfl, by kernel_rfl, by kernel_rfl⟩
theorem known70 : Known prog L70 := by
  unfold L70
  exact known69.lent mixed f101_has E69_eq digits_ok (fun _ _ => Nat.le_refl _) (fun _ _ => rfl)
def ownUVC : Prop := ∀ (x : List Int), x.length.le (1099511627776 : Nat) → x.length * (1 : Nat) ≤ (140737488355328 : Nat) ∧ x.length ≤ (1152921504606846976 : Nat) ∧ True ∧
  True ∧ x = x ∧ True

theorem ownU_eq : ownUVC = fnS E70 f102 (bodyOf f102) ownULS noAnn := by kernel_rfl
theorem ownU_ok : Fits E70 f102 (bodyOf f102) ownULS noAnn := by
  constructor
  rw [← ownU_eq]
  intro x hx
  have hx' : x.length ≤ 1099511627776 := hx
  exact ⟨by omega, by omega, trivial, trivial, rfl, trivial⟩
theorem f102_has : Has prog 102 f102 (bodyOf f102) := ⟨by kernel_rfl, by kernel_rfl, by kernel_rfl⟩
theorem known71 : Known prog L71 := by
  unfold L71
  exact known70.lent mixed f102_has E70_eq ownU_ok (fun _ _ => Nat.zero_le _) (fun _ _ => rfl)
def rUintVC : Prop := ∀ (x : BN), x.Low → x.n = x.n ∧ True ∧ U64 x.n ∧ x.xs = x.xs ∧ True ∧ x.xs.length.le (1099511627776 : Nat) ∧ ((↑(digs x.n).length : Int) ≤
  (9223372036854775807 : Int) → (x.xs.length + [wr IntKind.u8 (↑(digs x.n).length : Int)].length) * (1 : Nat) ≤ (140737488355328 : Nat) ∧ x.xs.length +
  [wr IntKind.u8 (↑(digs x.n).length : Int)].length ≤ (1152921504606846976 : Nat) ∧ ((x.xs ++ [wr IntKind.u8 (↑(digs x.n).length : Int)]).length + (digs
  x.n).length) * (1 : Nat) ≤ (140737488355328 : Nat) ∧ (x.xs ++ [wr IntKind.u8 (↑(digs x.n).length : Int)]).length + (digs x.n).length ≤
  (1152921504606846976 : Nat) ∧ True ∧ True ∧ x.xs ++ uintB x.n = x.xs ++ [wr IntKind.u8 (↑(digs x.n).length : Int)] ++ digs x.n ∧ True)

theorem rUint_eq : rUintVC = fnS E71 f61 (bodyOf f61) rUintLS noAnn := by kernel_rfl
theorem rUint_vc : rUintVC := by
  rintro ⟨xs, n⟩ ⟨hl, hn⟩
  simp only at hl hn
  have h8 := digs_le hn
  have e : wr .u8 ((digs n).length : Int) = ((digs n).length : Int) := by rw [wr8]; omega
  have hl2 : Nat.le xs.length 1099511627776 := show xs.length ≤ 1099511627776 by omega
  simp only [e, true_and, and_true, List.length_singleton, List.length_append, uintB, List.append_assoc, List.singleton_append]
  exact ⟨hn, hl2, fun _ => ⟨by omega, by omega, by omega, by omega⟩⟩
theorem rUint_ok : Fits E71 f61 (bodyOf f61) rUintLS noAnn := by
  constructor
  rw [← rUint_eq]
  exact rUint_vc
theorem f61_has : Has prog 61 f61 (bodyOf f61) := ⟨by kernel_rfl, by kernel_rfl, by kernel_rfl⟩
theorem known72 : Known prog L72 := by
  unfold L72
  exact known71.lent mixed f61_has E71_eq rUint_ok (fun _ _ => Nat.zero_le _) (fun _ _ => rfl)
def rHashVC : Prop := ∀ (x : BH), x.Ok → x.xs = x.xs ∧ True ∧ x.xs.length.le (1099511627776 : Nat) ∧ (x.xs.length + x.h.length) * (1 : Nat) ≤ (140737488355328 : Nat) ∧
  x.xs.length + x.h.length ≤ (1152921504606846976 : Nat) ∧ True ∧ True ∧ x.xs ++ x.h = x.xs ++ x.h ∧ True

theorem rHash_eq : rHashVC = fnS E72 f62 (bodyOf f62) rHashLS noAnn := by kernel_rfl
theorem rHash_vc : rHashVC := by
  rintro ⟨xs, h⟩ ⟨hl, hh⟩
  simp only at hl hh
  exact ⟨rfl, trivial, hl, by simp only; omega, by simp only; omega, trivial, trivial, rfl, trivial⟩
theorem rHash_ok : Fits E72 f62 (bodyOf f62) rHashLS noAnn := by
  constructor
  rw [← rHash_eq]
  exact rHash_vc
theorem f62_has : Has prog 62 f62 (bodyOf f62) := ⟨by kernel_rfl, by kernel_rfl, by kernel_rfl⟩
theorem known73 : Known prog L73 := by
  unfold L73
  exact known72.lent mixed f62_has E72_eq rHash_ok (fun _ _ => Nat.zero_le _) (fun _ _ => rfl)
end Go.Proofs.YtcglahfmnoghjaaDoor

/-! A condition laid as bytes, by the program and by the document; the document's All; CondAll: what is said of them. Conditions: none. -/
namespace Go.Proofs.YtcglahfmnoghjaaDoor
open Go Go.Eng Go.Proofs.Tryd

def keysB : List Int → List Int
  | [] => []
  | k :: l => uintB (wr .u64 k) ++ keysB l
def brB (b : Br) : List Int := uintB (wr .u64 (b.keys.length : Int)) ++ keysB b.keys ++ b.lock ++ uintB (wr .u64 b.after) ++ uintB (wr .u64 b.older)
def brsB : List Br → List Int
  | [] => []
  | b :: l => brB b ++ brsB l
def putB (bs : List Br) : List Int := uintB (wr .u64 (bs.length : Int)) ++ brsB bs
def Locks (bs : List Br) : Prop := ∀ b, b ∈ bs → b.lock.length = 32
structure PutX where
  b : List Int
  bs : List Br
structure PutX.Ok (x : PutX) : Prop where
  len : x.b.length ≤ 10000000000
  w : weight x.bs ≤ 1000000
  locks : Locks x.bs
def putLS : LS AA where
  X := PutX
  pre := PutX.Ok
  args := fun x => [.rints .u8 x.b, .agg (.cell (.rseq 93 (show List (AA 93) from x.bs)) .nil)]
  hin := fun _ => []
  res := fun _ => [.vec 0]
  hout := fun x => [.ivec 5 .u8 (x.b ++ putB x.bs)]
def putGet (args : List (SV AA)) (sh : List (SO AA)) : Option PutX := match args with
  | [s, c] => match gI .u8 sh s, condG 93 sh c with
    | some b, some bs => some ⟨b, bs⟩
    | _, _ => none
  | _ => none
def rPutGet (args : List (SV AA)) (sh : List (SO AA)) : Option PutX := match args with
  | [s, c] => match gI .u8 sh s, condG 48 sh c with
    | some b, some bs => some ⟨b, bs⟩
    | _, _ => none
  | _ => none
/-- The writer that a slot speaks of: its entry, its line's entry, its line. -/
def writerAt (ts : List (SV AA)) (sh : List (SO AA)) (t : Nat) : Option (Nat × Nat × List Int) := match nth ts t with
  | some (.ptr i _) => match nth sh i with
    | some (.cells _ (.cell (.vec j) .nil)) => match nth sh j with
      | some (.ivec _ _ xs) => some (i, j, xs)
      | _ => none
    | _ => none
  | _ => none
def putAnn (x : PutX) : Anns AA := fun k ts sh => match writerAt ts sh 5 with
  | some (i, j, xs) => if k = 4 then some {
      X := Nat
      inv := fun n => n ≤ x.bs.length
      meas := fun n => x.bs.length - n
      slots := fun n => [(19, .int .i64 n)]
      heap := fun _ => [(i, wcell (cnt sh)), (j, .dead)]
      more := fun n => [.ivec 5 .u8 (xs ++ brsB (x.bs.take n))] }
    else (match nth ts 30 with
      | some (.rints _ ks) => some {
        X := Nat
        inv := fun n => n ≤ ks.length
        meas := fun n => ks.length - n
        slots := fun n => [(32, .int .i64 n)]
        heap := fun _ => [(i, wcell (cnt sh)), (j, .dead)]
        more := fun n => [.ivec 5 .u8 (xs ++ keysB (ks.take n))] }
      | _ => none)
  | none => none
def L74 : List (Nat × SpecT AA) := (25, tLent putLS putGet) :: L73
noncomputable def E74 : Eng AA := EE prog L74
theorem E74_eq : E74 = EE prog L74 := by
  unfold E74
  rfl
def rPutLS : LS AA where
  X := PutX
  pre := PutX.Ok
  args := fun x => [.rints .u8 x.b, .agg (.cell (.rseq 48 (show List (AA 48) from x.bs)) .nil)]
  hin := fun _ => []
  res := fun x => [.rints .u8 (x.b ++ putB x.bs)]
  hout := fun _ => []
/-- A vector that a loop lets go. -/
def deadOf : SV AA → List (Nat × SO AA)
  | .vec j => [(j, .dead)]
  | _ => []
def rPutAnn (x : PutX) : Anns AA := fun k ts sh => match nth ts 5 with
  | some s => match gI .u8 sh s with
    | some xs => if k = 5 then some {
        X := Nat
        inv := fun n => n ≤ x.bs.length
        meas := fun n => x.bs.length - n
        slots := fun n => [(6, .int .i64 n), (5, .rints .u8 (xs ++ brsB (x.bs.take n)))]
        heap := fun _ => deadOf s }
      else (match nth ts 7 with
        | some (.ptr j _) => match nth sh j with
          | some (.cells _ (.cell (.rints _ ks) _)) => some {
            X := Nat
            inv := fun n => n ≤ ks.length
            meas := fun n => ks.length - n
            slots := fun n => [(8, .int .i64 n), (5, .rints .u8 (xs ++ keysB (ks.take n)))]
            heap := fun _ => deadOf s }
          | _ => none
        | _ => none)
    | none => none
  | none => none
def L75 : List (Nat × SpecT AA) := (26, tLent rPutLS rPutGet) :: L74
noncomputable def E75 : Eng AA := EE prog L75
theorem E75_eq : E75 = EE prog L75 := by
  unfold E75
  rfl
/-! ## The document's All -/
/-- How many of these are less, from the first on. -/
def lowN (k : Int) : List Int → Nat
  | [] => 0
  | x :: l => if x < k then lowN k l + 1 else 0
def insU (l : List Int) (k : Int) : List Int := if k ∈ l then l else l.take (lowN k l) ++ [k] ++ l.drop (lowN k l)
def upOf (l : List Int) : List Int := l.foldl insU []
def rAllLS : LS AA where
  X := List Int
  pre := fun xs => xs.length ≤ 1000000
  args := fun xs => [.rints .i64 xs]
  hin := fun _ => []
  res := fun ks => [.agg (.cell (.rseq 48 (show List Br from [⟨upOf ks, List.replicate 32 0, 0, 0⟩])) .nil)]
  hout := fun _ => []
def rAllAnn (xs : List Int) : Anns AA := fun k ts _ => if k = 4 then some {
    X := Nat
    inv := fun n => n ≤ xs.length
    meas := fun n => xs.length - n
    slots := fun n => [(4, .int .i64 n), (3, .rints .i64 (upOf (xs.take n)))]
    heap := fun _ => [] }
  else (match nth ts 3, nth ts 17 with
    | some (.rints _ l), some (.int _ y) => some {
      X := Nat
      inv := fun n => n ≤ l.length ∧ lowN y l = n + lowN y (l.drop n)
      meas := fun n => l.length - n
      slots := fun n => [(5, .int .i64 n)]
      heap := fun _ => [] }
    | _, _ => none)
def L76 : List (Nat × SpecT AA) := (27, tLent rAllLS cloneIGet) :: L75
noncomputable def E76 : Eng AA := EE prog L76
theorem E76_eq : E76 = EE prog L76 := by
  unfold E76
  rfl
/-! ## The law -/
def allLawLS : LS AA where
  X := List Int
  pre := fun _ => True
  args := fun xs => [.rints .i64 xs]
  hin := fun _ => []
  res := fun _ => [.sb 0 true]
  hout := fun _ => []
end Go.Proofs.YtcglahfmnoghjaaDoor

/-! A condition laid as bytes: plain laws; the program's and the document's walk hold. Conditions: none. -/
namespace Go.Proofs.YtcglahfmnoghjaaDoor
open Go Go.Eng Go.Proofs.Tryd

theorem u64_wr (x : Int) : U64 (wr .u64 x) := by
  rw [wr64u]
  exact ⟨Int.emod_nonneg _ (by decide), Int.emod_lt_of_pos _ (by decide)⟩
theorem uintB_le (x : Int) : (uintB (wr .u64 x)).length ≤ 9 := by
  have := digs_le (u64_wr x)
  simp only [uintB, List.length_cons]
  omega
theorem keysB_le : ∀ ks : List Int, (keysB ks).length ≤ 9 * ks.length
  | [] => by simp [keysB]
  | k :: l => by
    have h1 := keysB_le l
    have h2 := uintB_le k
    simp only [keysB, List.length_append, List.length_cons]
    omega
theorem keysB_app : ∀ a b : List Int, keysB (a ++ b) = keysB a ++ keysB b
  | [], b => rfl
  | k :: a, b => by simp [keysB, keysB_app a b]
theorem keysB_up {ks : List Int} {i : Nat} (h : i < ks.length) : keysB (ks.take (i + 1)) = keysB (ks.take i) ++ uintB (wr .u64 (ks.getD i 0)) := by
  rw [take_up h rfl, keysB_app]
  simp [keysB]
theorem brB_le {b : Br} (h : b.lock.length = 32) : (brB b).length ≤ 59 + 9 * b.keys.length := by
  have h1 := uintB_le (b.keys.length : Int)
  have h2 := keysB_le b.keys
  have h3 := uintB_le b.after
  have h4 := uintB_le b.older
  simp only [brB, List.length_append, h]
  omega
theorem brsB_le : ∀ {bs : List Br}, Locks bs → (brsB bs).length ≤ 59 * weight bs
  | [], _ => by simp [brsB]
  | b :: l, h => by
    have h1 := brB_le (h b List.mem_cons_self)
    have h2 := brsB_le (bs := l) (fun c hc => h c (List.mem_cons_of_mem _ hc))
    unfold weight at h2 ⊢
    simp only [brsB, sumK, List.length_append, List.length_cons]
    omega
theorem brsB_app : ∀ a b : List Br, brsB (a ++ b) = brsB a ++ brsB b
  | [], b => rfl
  | k :: a, b => by simp [brsB, brsB_app a b]
theorem brsB_up {bs : List Br} {i : Nat} {y : Br} (h : bs[i]? = some y) : brsB (bs.take (i + 1)) = brsB (bs.take i) ++ brB y := by
  rw [List.take_add_one, h, brsB_app]
  simp [brsB]
theorem brsB_take_le {bs : List Br} (h : Locks bs) (i : Nat) : (brsB (bs.take i)).length ≤ 59 * weight bs := by
  have h1 := brsB_le h
  have h2 := congrArg (fun x => (brsB x).length) (List.take_append_drop i bs)
  simp only [brsB_app, List.length_append] at h2
  omega
theorem keysB_take_le (ks : List Int) (i : Nat) : (keysB (ks.take i)).length ≤ 9 * ks.length := by
  have h1 := keysB_le ks
  have h2 := congrArg (fun x => (keysB x).length) (List.take_append_drop i ks)
  simp only [keysB_app, List.length_append] at h2
  omega
theorem key_w {bs : List Br} {i : Nat} {y : Br} (h : bs[i]? = some y) : y.keys.length ≤ weight bs := by
  have := len_weight h
  unfold weight
  omega
theorem putB_le {bs : List Br} (h : Locks bs) : (putB bs).length ≤ 9 + 59 * weight bs := by
  have h1 := brsB_le h
  have h2 := uintB_le (bs.length : Int)
  simp only [putB, List.length_append]
  omega

def putVC : Prop := ∀ (x : PutX), x.Ok → (↑x.bs.length : Int) ≤ (9223372036854775807 : Int) → True ∧ True ∧ True ∧ (True ∧ wr IntKind.u64 (↑x.bs.length : Int) = wr
  IntKind.u64 (↑x.bs.length : Int)) ∧ (((SV.val (A := AA) (Value.slice none (0 : Nat) (0 : Nat)) : SV AA) = SV.val (A := AA) (Value.slice none (0 : Nat)
  (0 : Nat)) ∧ True) ∧ ([] : List Int) = [] ∧ True) ∧ (BN.mk [] (wr IntKind.u64 (↑x.bs.length : Int))).Low ∧ ((↑x.bs.length : Int) ≤ (9223372036854775807
  : Int) → (∃ x_1, Nat.le x_1 x.bs.length ∧ (↑x_1 : Int) = (0 : Int) ∧ ((x.bs = x.bs ∧ True) ∧ (True ∧ True) ∧ True) ∧ [] ++ uintB (wr IntKind.u64
  (↑x.bs.length : Int)) ++ brsB (List.take x_1 x.bs) = [] ++ uintB (wr IntKind.u64 (↑x.bs.length : Int)) ∧ True) ∧ ∀ (x_1 : Nat), x_1.le x.bs.length →
  (decide ((↑x_1 : Int) < (↑x.bs.length : Int)) = true → (0 : Int) ≤ (↑x_1 : Int) ∧ (↑x_1 : Int) < (↑x.bs.length : Int) ∧ ∀ (y : AA (93 : Nat)),
  x.bs[(↑x_1 : Int).toNat]? = some y → (↑y.keys.length : Int) ≤ (9223372036854775807 : Int) → (True ∧ wr IntKind.u64 (↑y.keys.length : Int) = wr
  IntKind.u64 (↑y.keys.length : Int)) ∧ ((True ∧ True) ∧ [] ++ uintB (wr IntKind.u64 (↑x.bs.length : Int)) ++ brsB (List.take x_1 x.bs) = [] ++ uintB (wr
  IntKind.u64 (↑x.bs.length : Int)) ++ brsB (List.take x_1 x.bs) ∧ True) ∧ (BN.mk ([] ++ uintB (wr IntKind.u64 (↑x.bs.length : Int)) ++ brsB (List.take
  x_1 x.bs)) (wr IntKind.u64 (↑y.keys.length : Int))).Low ∧ ((↑y.keys.length : Int) ≤ (9223372036854775807 : Int) → (∃ x_2, Nat.le x_2 y.keys.length ∧
  (↑x_2 : Int) = (0 : Int) ∧ ((x.bs = x.bs ∧ True) ∧ (True ∧ True) ∧ (y.keys = y.keys ∧ y.lock = y.lock ∧ y.after = y.after ∧ y.older = y.older ∧ True) ∧
  True) ∧ [] ++ uintB (wr IntKind.u64 (↑x.bs.length : Int)) ++ brsB (List.take x_1 x.bs) ++ uintB (wr IntKind.u64 (↑y.keys.length : Int)) ++ keysB
  (List.take x_2 y.keys) = [] ++ uintB (wr IntKind.u64 (↑x.bs.length : Int)) ++ brsB (List.take x_1 x.bs) ++ uintB (wr IntKind.u64 (↑y.keys.length :
  Int)) ∧ True) ∧ ∀ (x_2 : Nat), x_2.le y.keys.length → (decide ((↑x_2 : Int) < (↑y.keys.length : Int)) = true → (0 : Int) ≤ (↑x_2 : Int) ∧ (↑x_2 : Int)
  < (↑y.keys.length : Int) ∧ (↑x_2 : Int).toNat < y.keys.length ∧ (True ∧ wr IntKind.u64 (y.keys.getD (↑x_2 : Int).toNat (0 : Int)) = wr IntKind.u64
  (y.keys.getD (↑x_2 : Int).toNat (0 : Int))) ∧ ((True ∧ True) ∧ [] ++ uintB (wr IntKind.u64 (↑x.bs.length : Int)) ++ brsB (List.take x_1 x.bs) ++ uintB
  (wr IntKind.u64 (↑y.keys.length : Int)) ++ keysB (List.take x_2 y.keys) = [] ++ uintB (wr IntKind.u64 (↑x.bs.length : Int)) ++ brsB (List.take x_1
  x.bs) ++ uintB (wr IntKind.u64 (↑y.keys.length : Int)) ++ keysB (List.take x_2 y.keys) ∧ True) ∧ (BN.mk ([] ++ uintB (wr IntKind.u64 (↑x.bs.length :
  Int)) ++ brsB (List.take x_1 x.bs) ++ uintB (wr IntKind.u64 (↑y.keys.length : Int)) ++ keysB (List.take x_2 y.keys)) (wr IntKind.u64 (y.keys.getD (↑x_2
  : Int).toNat (0 : Int)))).Low ∧ inI64 ((↑x_2 : Int) + (1 : Int)) ∧ ∃ y_1, Nat.le y_1 y.keys.length ∧ y.keys.length - y_1 < y.keys.length - x_2 ∧ (↑y_1
  : Int) = (↑x_2 : Int) + (1 : Int) ∧ ((x.bs = x.bs ∧ True) ∧ (True ∧ True) ∧ (y.keys = y.keys ∧ y.lock = y.lock ∧ y.after = y.after ∧ y.older = y.older
  ∧ True) ∧ True) ∧ [] ++ uintB (wr IntKind.u64 (↑x.bs.length : Int)) ++ brsB (List.take x_1 x.bs) ++ uintB (wr IntKind.u64 (↑y.keys.length : Int)) ++
  keysB (List.take y_1 y.keys) = [] ++ uintB (wr IntKind.u64 (↑x.bs.length : Int)) ++ brsB (List.take x_1 x.bs) ++ uintB (wr IntKind.u64 (↑y.keys.length
  : Int)) ++ keysB (List.take x_2 y.keys) ++ uintB (wr IntKind.u64 (y.keys.getD (↑x_2 : Int).toNat (0 : Int))) ∧ True) ∧ (decide ((↑x_2 : Int) <
  (↑y.keys.length : Int)) = false → ((True ∧ y.lock = y.lock ∧ True) ∧ ((True ∧ True) ∧ [] ++ uintB (wr IntKind.u64 (↑x.bs.length : Int)) ++ brsB
  (List.take x_1 x.bs) ++ uintB (wr IntKind.u64 (↑y.keys.length : Int)) ++ keysB (List.take x_2 y.keys) = [] ++ uintB (wr IntKind.u64 (↑x.bs.length :
  Int)) ++ brsB (List.take x_1 x.bs) ++ uintB (wr IntKind.u64 (↑y.keys.length : Int)) ++ keysB (List.take x_2 y.keys) ∧ True) ∧ (BH.mk ([] ++ uintB (wr
  IntKind.u64 (↑x.bs.length : Int)) ++ brsB (List.take x_1 x.bs) ++ uintB (wr IntKind.u64 (↑y.keys.length : Int)) ++ keysB (List.take x_2 y.keys))
  y.lock).Ok ∧ ((True ∧ wr IntKind.u64 y.after = wr IntKind.u64 y.after) ∧ ((True ∧ True) ∧ [] ++ uintB (wr IntKind.u64 (↑x.bs.length : Int)) ++ brsB
  (List.take x_1 x.bs) ++ uintB (wr IntKind.u64 (↑y.keys.length : Int)) ++ keysB (List.take x_2 y.keys) ++ y.lock = [] ++ uintB (wr IntKind.u64
  (↑x.bs.length : Int)) ++ brsB (List.take x_1 x.bs) ++ uintB (wr IntKind.u64 (↑y.keys.length : Int)) ++ keysB (List.take x_2 y.keys) ++ y.lock ∧ True) ∧
  (BN.mk ([] ++ uintB (wr IntKind.u64 (↑x.bs.length : Int)) ++ brsB (List.take x_1 x.bs) ++ uintB (wr IntKind.u64 (↑y.keys.length : Int)) ++ keysB
  (List.take x_2 y.keys) ++ y.lock) (wr IntKind.u64 y.after)).Low ∧ (True ∧ wr IntKind.u64 y.older = wr IntKind.u64 y.older) ∧ ((True ∧ True) ∧ [] ++
  uintB (wr IntKind.u64 (↑x.bs.length : Int)) ++ brsB (List.take x_1 x.bs) ++ uintB (wr IntKind.u64 (↑y.keys.length : Int)) ++ keysB (List.take x_2
  y.keys) ++ y.lock ++ uintB (wr IntKind.u64 y.after) = [] ++ uintB (wr IntKind.u64 (↑x.bs.length : Int)) ++ brsB (List.take x_1 x.bs) ++ uintB (wr
  IntKind.u64 (↑y.keys.length : Int)) ++ keysB (List.take x_2 y.keys) ++ y.lock ++ uintB (wr IntKind.u64 y.after) ∧ True) ∧ (BN.mk ([] ++ uintB (wr
  IntKind.u64 (↑x.bs.length : Int)) ++ brsB (List.take x_1 x.bs) ++ uintB (wr IntKind.u64 (↑y.keys.length : Int)) ++ keysB (List.take x_2 y.keys) ++
  y.lock ++ uintB (wr IntKind.u64 y.after)) (wr IntKind.u64 y.older)).Low ∧ inI64 ((↑x_1 : Int) + (1 : Int)) ∧ ∃ y_1, Nat.le y_1 x.bs.length ∧
  x.bs.length - y_1 < x.bs.length - x_1 ∧ (↑y_1 : Int) = (↑x_1 : Int) + (1 : Int) ∧ ((x.bs = x.bs ∧ True) ∧ (True ∧ True) ∧ True) ∧ [] ++ uintB (wr
  IntKind.u64 (↑x.bs.length : Int)) ++ brsB (List.take y_1 x.bs) = [] ++ uintB (wr IntKind.u64 (↑x.bs.length : Int)) ++ brsB (List.take x_1 x.bs) ++
  uintB (wr IntKind.u64 (↑y.keys.length : Int)) ++ keysB (List.take x_2 y.keys) ++ y.lock ++ uintB (wr IntKind.u64 y.after) ++ uintB (wr IntKind.u64
  y.older) ∧ True) ∧ (True ∧ wr IntKind.u64 y.after = wr IntKind.u64 y.after) ∧ ((True ∧ True) ∧ [] ++ uintB (wr IntKind.u64 (↑x.bs.length : Int)) ++
  brsB (List.take x_1 x.bs) ++ uintB (wr IntKind.u64 (↑y.keys.length : Int)) ++ keysB (List.take x_2 y.keys) ++ y.lock = [] ++ uintB (wr IntKind.u64
  (↑x.bs.length : Int)) ++ brsB (List.take x_1 x.bs) ++ uintB (wr IntKind.u64 (↑y.keys.length : Int)) ++ keysB (List.take x_2 y.keys) ++ y.lock ∧ True) ∧
  (BN.mk ([] ++ uintB (wr IntKind.u64 (↑x.bs.length : Int)) ++ brsB (List.take x_1 x.bs) ++ uintB (wr IntKind.u64 (↑y.keys.length : Int)) ++ keysB
  (List.take x_2 y.keys) ++ y.lock) (wr IntKind.u64 y.after)).Low ∧ (True ∧ wr IntKind.u64 y.older = wr IntKind.u64 y.older) ∧ ((True ∧ True) ∧ [] ++
  uintB (wr IntKind.u64 (↑x.bs.length : Int)) ++ brsB (List.take x_1 x.bs) ++ uintB (wr IntKind.u64 (↑y.keys.length : Int)) ++ keysB (List.take x_2
  y.keys) ++ y.lock ++ uintB (wr IntKind.u64 y.after) = [] ++ uintB (wr IntKind.u64 (↑x.bs.length : Int)) ++ brsB (List.take x_1 x.bs) ++ uintB (wr
  IntKind.u64 (↑y.keys.length : Int)) ++ keysB (List.take x_2 y.keys) ++ y.lock ++ uintB (wr IntKind.u64 y.after) ∧ True) ∧ (BN.mk ([] ++ uintB (wr
  IntKind.u64 (↑x.bs.length : Int)) ++ brsB (List.take x_1 x.bs) ++ uintB (wr IntKind.u64 (↑y.keys.length : Int)) ++ keysB (List.take x_2 y.keys) ++
  y.lock ++ uintB (wr IntKind.u64 y.after)) (wr IntKind.u64 y.older)).Low ∧ inI64 ((↑x_1 : Int) + (1 : Int)) ∧ ∃ y_1, Nat.le y_1 x.bs.length ∧
  x.bs.length - y_1 < x.bs.length - x_1 ∧ (↑y_1 : Int) = (↑x_1 : Int) + (1 : Int) ∧ ((x.bs = x.bs ∧ True) ∧ (True ∧ True) ∧ True) ∧ [] ++ uintB (wr
  IntKind.u64 (↑x.bs.length : Int)) ++ brsB (List.take y_1 x.bs) = [] ++ uintB (wr IntKind.u64 (↑x.bs.length : Int)) ++ brsB (List.take x_1 x.bs) ++
  uintB (wr IntKind.u64 (↑y.keys.length : Int)) ++ keysB (List.take x_2 y.keys) ++ y.lock ++ uintB (wr IntKind.u64 y.after) ++ uintB (wr IntKind.u64
  y.older) ∧ True) ∧ (((True ∧ y.lock = y.lock ∧ True) ∧ ((True ∧ True) ∧ [] ++ uintB (wr IntKind.u64 (↑x.bs.length : Int)) ++ brsB (List.take x_1 x.bs)
  ++ uintB (wr IntKind.u64 (↑y.keys.length : Int)) ++ keysB (List.take x_2 y.keys) = [] ++ uintB (wr IntKind.u64 (↑x.bs.length : Int)) ++ brsB (List.take
  x_1 x.bs) ++ uintB (wr IntKind.u64 (↑y.keys.length : Int)) ++ keysB (List.take x_2 y.keys) ∧ True) ∧ (BH.mk ([] ++ uintB (wr IntKind.u64 (↑x.bs.length
  : Int)) ++ brsB (List.take x_1 x.bs) ++ uintB (wr IntKind.u64 (↑y.keys.length : Int)) ++ keysB (List.take x_2 y.keys)) y.lock).Ok ∧ ((True ∧ wr
  IntKind.u64 y.after = wr IntKind.u64 y.after) ∧ ((True ∧ True) ∧ [] ++ uintB (wr IntKind.u64 (↑x.bs.length : Int)) ++ brsB (List.take x_1 x.bs) ++
  uintB (wr IntKind.u64 (↑y.keys.length : Int)) ++ keysB (List.take x_2 y.keys) ++ y.lock = [] ++ uintB (wr IntKind.u64 (↑x.bs.length : Int)) ++ brsB
  (List.take x_1 x.bs) ++ uintB (wr IntKind.u64 (↑y.keys.length : Int)) ++ keysB (List.take x_2 y.keys) ++ y.lock ∧ True) ∧ (BN.mk ([] ++ uintB (wr
  IntKind.u64 (↑x.bs.length : Int)) ++ brsB (List.take x_1 x.bs) ++ uintB (wr IntKind.u64 (↑y.keys.length : Int)) ++ keysB (List.take x_2 y.keys) ++
  y.lock) (wr IntKind.u64 y.after)).Low ∧ (True ∧ wr IntKind.u64 y.older = wr IntKind.u64 y.older) ∧ ((True ∧ True) ∧ [] ++ uintB (wr IntKind.u64
  (↑x.bs.length : Int)) ++ brsB (List.take x_1 x.bs) ++ uintB (wr IntKind.u64 (↑y.keys.length : Int)) ++ keysB (List.take x_2 y.keys) ++ y.lock ++ uintB
  (wr IntKind.u64 y.after) = [] ++ uintB (wr IntKind.u64 (↑x.bs.length : Int)) ++ brsB (List.take x_1 x.bs) ++ uintB (wr IntKind.u64 (↑y.keys.length :
  Int)) ++ keysB (List.take x_2 y.keys) ++ y.lock ++ uintB (wr IntKind.u64 y.after) ∧ True) ∧ (BN.mk ([] ++ uintB (wr IntKind.u64 (↑x.bs.length : Int))
  ++ brsB (List.take x_1 x.bs) ++ uintB (wr IntKind.u64 (↑y.keys.length : Int)) ++ keysB (List.take x_2 y.keys) ++ y.lock ++ uintB (wr IntKind.u64
  y.after)) (wr IntKind.u64 y.older)).Low ∧ inI64 ((↑x_1 : Int) + (1 : Int)) ∧ ∃ y_1, Nat.le y_1 x.bs.length ∧ x.bs.length - y_1 < x.bs.length - x_1 ∧
  (↑y_1 : Int) = (↑x_1 : Int) + (1 : Int) ∧ ((x.bs = x.bs ∧ True) ∧ (True ∧ True) ∧ True) ∧ [] ++ uintB (wr IntKind.u64 (↑x.bs.length : Int)) ++ brsB
  (List.take y_1 x.bs) = [] ++ uintB (wr IntKind.u64 (↑x.bs.length : Int)) ++ brsB (List.take x_1 x.bs) ++ uintB (wr IntKind.u64 (↑y.keys.length : Int))
  ++ keysB (List.take x_2 y.keys) ++ y.lock ++ uintB (wr IntKind.u64 y.after) ++ uintB (wr IntKind.u64 y.older) ∧ True) ∧ (True ∧ wr IntKind.u64 y.after
  = wr IntKind.u64 y.after) ∧ ((True ∧ True) ∧ [] ++ uintB (wr IntKind.u64 (↑x.bs.length : Int)) ++ brsB (List.take x_1 x.bs) ++ uintB (wr IntKind.u64
  (↑y.keys.length : Int)) ++ keysB (List.take x_2 y.keys) ++ y.lock = [] ++ uintB (wr IntKind.u64 (↑x.bs.length : Int)) ++ brsB (List.take x_1 x.bs) ++
  uintB (wr IntKind.u64 (↑y.keys.length : Int)) ++ keysB (List.take x_2 y.keys) ++ y.lock ∧ True) ∧ (BN.mk ([] ++ uintB (wr IntKind.u64 (↑x.bs.length :
  Int)) ++ brsB (List.take x_1 x.bs) ++ uintB (wr IntKind.u64 (↑y.keys.length : Int)) ++ keysB (List.take x_2 y.keys) ++ y.lock) (wr IntKind.u64
  y.after)).Low ∧ (True ∧ wr IntKind.u64 y.older = wr IntKind.u64 y.older) ∧ ((True ∧ True) ∧ [] ++ uintB (wr IntKind.u64 (↑x.bs.length : Int)) ++ brsB
  (List.take x_1 x.bs) ++ uintB (wr IntKind.u64 (↑y.keys.length : Int)) ++ keysB (List.take x_2 y.keys) ++ y.lock ++ uintB (wr IntKind.u64 y.after) = []
  ++ uintB (wr IntKind.u64 (↑x.bs.length : Int)) ++ brsB (List.take x_1 x.bs) ++ uintB (wr IntKind.u64 (↑y.keys.length : Int)) ++ keysB (List.take x_2
  y.keys) ++ y.lock ++ uintB (wr IntKind.u64 y.after) ∧ True) ∧ (BN.mk ([] ++ uintB (wr IntKind.u64 (↑x.bs.length : Int)) ++ brsB (List.take x_1 x.bs) ++
  uintB (wr IntKind.u64 (↑y.keys.length : Int)) ++ keysB (List.take x_2 y.keys) ++ y.lock ++ uintB (wr IntKind.u64 y.after)) (wr IntKind.u64
  y.older)).Low ∧ inI64 ((↑x_1 : Int) + (1 : Int)) ∧ ∃ y_1, Nat.le y_1 x.bs.length ∧ x.bs.length - y_1 < x.bs.length - x_1 ∧ (↑y_1 : Int) = (↑x_1 : Int)
  + (1 : Int) ∧ ((x.bs = x.bs ∧ True) ∧ (True ∧ True) ∧ True) ∧ [] ++ uintB (wr IntKind.u64 (↑x.bs.length : Int)) ++ brsB (List.take y_1 x.bs) = [] ++
  uintB (wr IntKind.u64 (↑x.bs.length : Int)) ++ brsB (List.take x_1 x.bs) ++ uintB (wr IntKind.u64 (↑y.keys.length : Int)) ++ keysB (List.take x_2
  y.keys) ++ y.lock ++ uintB (wr IntKind.u64 y.after) ++ uintB (wr IntKind.u64 y.older) ∧ True) ∧ (True ∧ y.lock = y.lock ∧ True) ∧ ((True ∧ True) ∧ []
  ++ uintB (wr IntKind.u64 (↑x.bs.length : Int)) ++ brsB (List.take x_1 x.bs) ++ uintB (wr IntKind.u64 (↑y.keys.length : Int)) ++ keysB (List.take x_2
  y.keys) = [] ++ uintB (wr IntKind.u64 (↑x.bs.length : Int)) ++ brsB (List.take x_1 x.bs) ++ uintB (wr IntKind.u64 (↑y.keys.length : Int)) ++ keysB
  (List.take x_2 y.keys) ∧ True) ∧ (BH.mk ([] ++ uintB (wr IntKind.u64 (↑x.bs.length : Int)) ++ brsB (List.take x_1 x.bs) ++ uintB (wr IntKind.u64
  (↑y.keys.length : Int)) ++ keysB (List.take x_2 y.keys)) y.lock).Ok ∧ (True ∧ wr IntKind.u64 y.after = wr IntKind.u64 y.after) ∧ ((True ∧ True) ∧ [] ++
  uintB (wr IntKind.u64 (↑x.bs.length : Int)) ++ brsB (List.take x_1 x.bs) ++ uintB (wr IntKind.u64 (↑y.keys.length : Int)) ++ keysB (List.take x_2
  y.keys) ++ y.lock = [] ++ uintB (wr IntKind.u64 (↑x.bs.length : Int)) ++ brsB (List.take x_1 x.bs) ++ uintB (wr IntKind.u64 (↑y.keys.length : Int)) ++
  keysB (List.take x_2 y.keys) ++ y.lock ∧ True) ∧ (BN.mk ([] ++ uintB (wr IntKind.u64 (↑x.bs.length : Int)) ++ brsB (List.take x_1 x.bs) ++ uintB (wr
  IntKind.u64 (↑y.keys.length : Int)) ++ keysB (List.take x_2 y.keys) ++ y.lock) (wr IntKind.u64 y.after)).Low ∧ (True ∧ wr IntKind.u64 y.older = wr
  IntKind.u64 y.older) ∧ ((True ∧ True) ∧ [] ++ uintB (wr IntKind.u64 (↑x.bs.length : Int)) ++ brsB (List.take x_1 x.bs) ++ uintB (wr IntKind.u64
  (↑y.keys.length : Int)) ++ keysB (List.take x_2 y.keys) ++ y.lock ++ uintB (wr IntKind.u64 y.after) = [] ++ uintB (wr IntKind.u64 (↑x.bs.length : Int))
  ++ brsB (List.take x_1 x.bs) ++ uintB (wr IntKind.u64 (↑y.keys.length : Int)) ++ keysB (List.take x_2 y.keys) ++ y.lock ++ uintB (wr IntKind.u64
  y.after) ∧ True) ∧ (BN.mk ([] ++ uintB (wr IntKind.u64 (↑x.bs.length : Int)) ++ brsB (List.take x_1 x.bs) ++ uintB (wr IntKind.u64 (↑y.keys.length :
  Int)) ++ keysB (List.take x_2 y.keys) ++ y.lock ++ uintB (wr IntKind.u64 y.after)) (wr IntKind.u64 y.older)).Low ∧ inI64 ((↑x_1 : Int) + (1 : Int)) ∧ ∃
  y_1, Nat.le y_1 x.bs.length ∧ x.bs.length - y_1 < x.bs.length - x_1 ∧ (↑y_1 : Int) = (↑x_1 : Int) + (1 : Int) ∧ ((x.bs = x.bs ∧ True) ∧ (True ∧ True) ∧
  True) ∧ [] ++ uintB (wr IntKind.u64 (↑x.bs.length : Int)) ++ brsB (List.take y_1 x.bs) = [] ++ uintB (wr IntKind.u64 (↑x.bs.length : Int)) ++ brsB
  (List.take x_1 x.bs) ++ uintB (wr IntKind.u64 (↑y.keys.length : Int)) ++ keysB (List.take x_2 y.keys) ++ y.lock ++ uintB (wr IntKind.u64 y.after) ++
  uintB (wr IntKind.u64 y.older) ∧ True) ∧ ((True ∧ y.lock = y.lock ∧ True) ∧ ((True ∧ True) ∧ [] ++ uintB (wr IntKind.u64 (↑x.bs.length : Int)) ++ brsB
  (List.take x_1 x.bs) ++ uintB (wr IntKind.u64 (↑y.keys.length : Int)) ++ keysB (List.take x_2 y.keys) = [] ++ uintB (wr IntKind.u64 (↑x.bs.length :
  Int)) ++ brsB (List.take x_1 x.bs) ++ uintB (wr IntKind.u64 (↑y.keys.length : Int)) ++ keysB (List.take x_2 y.keys) ∧ True) ∧ (BH.mk ([] ++ uintB (wr
  IntKind.u64 (↑x.bs.length : Int)) ++ brsB (List.take x_1 x.bs) ++ uintB (wr IntKind.u64 (↑y.keys.length : Int)) ++ keysB (List.take x_2 y.keys))
  y.lock).Ok ∧ (True ∧ wr IntKind.u64 y.after = wr IntKind.u64 y.after) ∧ ((True ∧ True) ∧ [] ++ uintB (wr IntKind.u64 (↑x.bs.length : Int)) ++ brsB
  (List.take x_1 x.bs) ++ uintB (wr IntKind.u64 (↑y.keys.length : Int)) ++ keysB (List.take x_2 y.keys) ++ y.lock = [] ++ uintB (wr IntKind.u64
  (↑x.bs.length : Int)) ++ brsB (List.take x_1 x.bs) ++ uintB (wr IntKind.u64 (↑y.keys.length : Int)) ++ keysB (List.take x_2 y.keys) ++ y.lock ∧ True) ∧
  (BN.mk ([] ++ uintB (wr IntKind.u64 (↑x.bs.length : Int)) ++ brsB (List.take x_1 x.bs) ++ uintB (wr IntKind.u64 (↑y.keys.length : Int)) ++ keysB
  (List.take x_2 y.keys) ++ y.lock) (wr IntKind.u64 y.after)).Low ∧ (True ∧ wr IntKind.u64 y.older = wr IntKind.u64 y.older) ∧ ((True ∧ True) ∧ [] ++
  uintB (wr IntKind.u64 (↑x.bs.length : Int)) ++ brsB (List.take x_1 x.bs) ++ uintB (wr IntKind.u64 (↑y.keys.length : Int)) ++ keysB (List.take x_2
  y.keys) ++ y.lock ++ uintB (wr IntKind.u64 y.after) = [] ++ uintB (wr IntKind.u64 (↑x.bs.length : Int)) ++ brsB (List.take x_1 x.bs) ++ uintB (wr
  IntKind.u64 (↑y.keys.length : Int)) ++ keysB (List.take x_2 y.keys) ++ y.lock ++ uintB (wr IntKind.u64 y.after) ∧ True) ∧ (BN.mk ([] ++ uintB (wr
  IntKind.u64 (↑x.bs.length : Int)) ++ brsB (List.take x_1 x.bs) ++ uintB (wr IntKind.u64 (↑y.keys.length : Int)) ++ keysB (List.take x_2 y.keys) ++
  y.lock ++ uintB (wr IntKind.u64 y.after)) (wr IntKind.u64 y.older)).Low ∧ inI64 ((↑x_1 : Int) + (1 : Int)) ∧ ∃ y_1, Nat.le y_1 x.bs.length ∧
  x.bs.length - y_1 < x.bs.length - x_1 ∧ (↑y_1 : Int) = (↑x_1 : Int) + (1 : Int) ∧ ((x.bs = x.bs ∧ True) ∧ (True ∧ True) ∧ True) ∧ [] ++ uintB (wr
  IntKind.u64 (↑x.bs.length : Int)) ++ brsB (List.take y_1 x.bs) = [] ++ uintB (wr IntKind.u64 (↑x.bs.length : Int)) ++ brsB (List.take x_1 x.bs) ++
  uintB (wr IntKind.u64 (↑y.keys.length : Int)) ++ keysB (List.take x_2 y.keys) ++ y.lock ++ uintB (wr IntKind.u64 y.after) ++ uintB (wr IntKind.u64
  y.older) ∧ True) ∧ (True ∧ y.lock = y.lock ∧ True) ∧ ((True ∧ True) ∧ [] ++ uintB (wr IntKind.u64 (↑x.bs.length : Int)) ++ brsB (List.take x_1 x.bs) ++
  uintB (wr IntKind.u64 (↑y.keys.length : Int)) ++ keysB (List.take x_2 y.keys) = [] ++ uintB (wr IntKind.u64 (↑x.bs.length : Int)) ++ brsB (List.take
  x_1 x.bs) ++ uintB (wr IntKind.u64 (↑y.keys.length : Int)) ++ keysB (List.take x_2 y.keys) ∧ True) ∧ (BH.mk ([] ++ uintB (wr IntKind.u64 (↑x.bs.length
  : Int)) ++ brsB (List.take x_1 x.bs) ++ uintB (wr IntKind.u64 (↑y.keys.length : Int)) ++ keysB (List.take x_2 y.keys)) y.lock).Ok ∧ (True ∧ wr
  IntKind.u64 y.after = wr IntKind.u64 y.after) ∧ ((True ∧ True) ∧ [] ++ uintB (wr IntKind.u64 (↑x.bs.length : Int)) ++ brsB (List.take x_1 x.bs) ++
  uintB (wr IntKind.u64 (↑y.keys.length : Int)) ++ keysB (List.take x_2 y.keys) ++ y.lock = [] ++ uintB (wr IntKind.u64 (↑x.bs.length : Int)) ++ brsB
  (List.take x_1 x.bs) ++ uintB (wr IntKind.u64 (↑y.keys.length : Int)) ++ keysB (List.take x_2 y.keys) ++ y.lock ∧ True) ∧ (BN.mk ([] ++ uintB (wr
  IntKind.u64 (↑x.bs.length : Int)) ++ brsB (List.take x_1 x.bs) ++ uintB (wr IntKind.u64 (↑y.keys.length : Int)) ++ keysB (List.take x_2 y.keys) ++
  y.lock) (wr IntKind.u64 y.after)).Low ∧ (True ∧ wr IntKind.u64 y.older = wr IntKind.u64 y.older) ∧ ((True ∧ True) ∧ [] ++ uintB (wr IntKind.u64
  (↑x.bs.length : Int)) ++ brsB (List.take x_1 x.bs) ++ uintB (wr IntKind.u64 (↑y.keys.length : Int)) ++ keysB (List.take x_2 y.keys) ++ y.lock ++ uintB
  (wr IntKind.u64 y.after) = [] ++ uintB (wr IntKind.u64 (↑x.bs.length : Int)) ++ brsB (List.take x_1 x.bs) ++ uintB (wr IntKind.u64 (↑y.keys.length :
  Int)) ++ keysB (List.take x_2 y.keys) ++ y.lock ++ uintB (wr IntKind.u64 y.after) ∧ True) ∧ (BN.mk ([] ++ uintB (wr IntKind.u64 (↑x.bs.length : Int))
  ++ brsB (List.take x_1 x.bs) ++ uintB (wr IntKind.u64 (↑y.keys.length : Int)) ++ keysB (List.take x_2 y.keys) ++ y.lock ++ uintB (wr IntKind.u64
  y.after)) (wr IntKind.u64 y.older)).Low ∧ inI64 ((↑x_1 : Int) + (1 : Int)) ∧ ∃ y_1, Nat.le y_1 x.bs.length ∧ x.bs.length - y_1 < x.bs.length - x_1 ∧
  (↑y_1 : Int) = (↑x_1 : Int) + (1 : Int) ∧ ((x.bs = x.bs ∧ True) ∧ (True ∧ True) ∧ True) ∧ [] ++ uintB (wr IntKind.u64 (↑x.bs.length : Int)) ++ brsB
  (List.take y_1 x.bs) = [] ++ uintB (wr IntKind.u64 (↑x.bs.length : Int)) ++ brsB (List.take x_1 x.bs) ++ uintB (wr IntKind.u64 (↑y.keys.length : Int))
  ++ keysB (List.take x_2 y.keys) ++ y.lock ++ uintB (wr IntKind.u64 y.after) ++ uintB (wr IntKind.u64 y.older) ∧ True))) ∧ (decide ((↑x_1 : Int) <
  (↑x.bs.length : Int)) = false → True ∧ ((True ∧ True) ∧ [] ++ uintB (wr IntKind.u64 (↑x.bs.length : Int)) ++ brsB (List.take x_1 x.bs) = [] ++ uintB
  (wr IntKind.u64 (↑x.bs.length : Int)) ++ brsB (List.take x_1 x.bs) ∧ True) ∧ ([] ++ uintB (wr IntKind.u64 (↑x.bs.length : Int)) ++ brsB (List.take x_1
  x.bs)).length.le (1099511627776 : Nat) ∧ (x.b = x.b ∧ True) ∧ ([] ++ uintB (wr IntKind.u64 (↑x.bs.length : Int)) ++ brsB (List.take x_1 x.bs) = [] ++
  uintB (wr IntKind.u64 (↑x.bs.length : Int)) ++ brsB (List.take x_1 x.bs) ∧ True) ∧ [x.b, [] ++ uintB (wr IntKind.u64 (↑x.bs.length : Int)) ++ brsB
  (List.take x_1 x.bs)] = [x.b, [] ++ uintB (wr IntKind.u64 (↑x.bs.length : Int)) ++ brsB (List.take x_1 x.bs)] ∧ True ∧ LL [x.b, [] ++ uintB (wr
  IntKind.u64 (↑x.bs.length : Int)) ++ brsB (List.take x_1 x.bs)] ∧ True ∧ True ∧ x.b ++ putB x.bs = flat [x.b, [] ++ uintB (wr IntKind.u64 (↑x.bs.length
  : Int)) ++ brsB (List.take x_1 x.bs)] ∧ True))

theorem put_eq : putVC = fnS E73 f25 (bodyOf f25) putLS putAnn := by kernel_rfl
theorem put_vc : putVC := by
  rintro ⟨b, bs⟩ ⟨hb, hw, hlk⟩
  simp only at hb hw hlk
  have low : ∀ (xs : List Int) (n : Int), xs.length ≤ 1000000000000 → (BN.mk xs (wr .u64 n)).Low := fun xs n h => ⟨h, u64_wr n⟩
  have p0 := uintB_le (bs.length : Int)
  simp only [true_and, and_true, decide_eq_true_eq, decide_eq_false_iff_not, Int.toNat_natCast, List.nil_append]
  refine fun _ => ⟨low _ _ (by simp), fun _ => ⟨⟨0, Nat.zero_le _, rfl, by simp [brsB]⟩, fun i hi => ⟨fun h => ?_, fun h => ?_⟩⟩⟩
  · have hi' : i < bs.length := by omega
    have p1 := brsB_take_le hlk i
    refine ⟨by omega, by omega, fun y hy _ => ?_⟩
    have p2 := uintB_le (y.keys.length : Int)
    have p3 : y.keys.length ≤ weight bs := key_w hy
    have hl : y.lock.length = 32 := hlk y (List.mem_of_getElem? hy)
    refine ⟨low _ _ (by simp only [List.length_append]; omega), fun _ => ⟨⟨0, Nat.zero_le _, rfl, by simp [keysB]⟩, fun k hk => ⟨fun h2 => ?_, fun h2 => ?_⟩⟩⟩
    · have hk' : k < y.keys.length := by omega
      have p4 := keysB_take_le y.keys k
      exact ⟨by omega, by omega, by omega, low _ _ (by simp only [List.length_append]; omega), by unfold inI64; omega, k + 1, hk', by omega, by omega, by rw [keysB_up hk']; simp only [List.append_assoc]⟩
    · have p4 := keysB_take_le y.keys k
      have p5 := uintB_le y.after
      have e1 : y.keys.take k = y.keys := List.take_of_length_le (by omega)
      have F1 : (BH.mk (uintB (wr .u64 (bs.length : Int)) ++ brsB (bs.take i) ++ uintB (wr .u64 (y.keys.length : Int)) ++ keysB (y.keys.take k)) y.lock).Ok := ⟨by simp only [List.length_append]; omega, hl⟩
      have F2 : (BN.mk (uintB (wr .u64 (bs.length : Int)) ++ brsB (bs.take i) ++ uintB (wr .u64 (y.keys.length : Int)) ++ keysB (y.keys.take k) ++ y.lock) (wr .u64 y.after)).Low := low _ _ (by simp only [List.length_append]; omega)
      have F3 : (BN.mk (uintB (wr .u64 (bs.length : Int)) ++ brsB (bs.take i) ++ uintB (wr .u64 (y.keys.length : Int)) ++ keysB (y.keys.take k) ++ y.lock ++ uintB (wr .u64 y.after)) (wr .u64 y.older)).Low := low _ _ (by simp only [List.length_append]; omega)
      have F4 : inI64 ((i : Int) + 1) := by unfold inI64; omega
      have F5 : ∃ j, Nat.le j bs.length ∧ bs.length - j < bs.length - i ∧ (j : Int) = (i : Int) + 1 ∧ uintB (wr .u64 (bs.length : Int)) ++ brsB (bs.take j) = uintB (wr .u64 (bs.length : Int)) ++ brsB (bs.take i) ++ uintB (wr .u64 (y.keys.length : Int)) ++ keysB (y.keys.take k) ++ y.lock ++ uintB (wr .u64 y.after) ++ uintB (wr .u64 y.older) :=
        ⟨i + 1, hi', by omega, by omega, by rw [brsB_up (y := y) hy, e1]; simp only [brB, List.append_assoc]⟩
      simp only [F1, F2, F3, F4, F5, and_self]
  · have p1 := brsB_le hlk
    have e1 : bs.take i = bs := List.take_of_length_le (by omega)
    rw [e1]
    refine ⟨show (uintB (wr .u64 (bs.length : Int)) ++ brsB bs).length ≤ 1099511627776 by simp only [List.length_append]; omega, ⟨by simp, by simp only [flat, List.length_append, List.length_nil]; omega⟩, by simp only [flat, putB, List.append_nil]⟩
theorem put_ok : Fits E73 f25 (bodyOf f25) putLS putAnn := by
  constructor
  rw [← put_eq]
  exact put_vc
theorem f25_has : Has prog 25 f25 (bodyOf f25) := ⟨by kernel_rfl, by kernel_rfl, by kernel_rfl⟩
theorem known74 : Known prog L74 := by
  unfold L74
  exact known73.lent mixed f25_has E73_eq put_ok (fun _ _ => Nat.zero_le _) (fun _ _ => rfl)

theorem dup {A B L C : Prop} (a : A) (b : B) (c : C) : (A ∧ B ∧ (L → C)) ∧ (L → A ∧ B ∧ C) := ⟨⟨a, b, fun _ => c⟩, fun _ => ⟨a, b, c⟩⟩
def rPutVC : Prop := ∀ (x : PutX), x.Ok → (x.b.length * (1 : Nat) ≤ (140737488355328 : Nat) ∧ x.b.length ≤ (1152921504606846976 : Nat) ∧ ((↑x.bs.length : Int) ≤
  (9223372036854775807 : Int) → (x.b = x.b ∧ wr IntKind.u64 (↑x.bs.length : Int) = wr IntKind.u64 (↑x.bs.length : Int)) ∧ True ∧ (BN.mk x.b (wr
  IntKind.u64 (↑x.bs.length : Int))).Low ∧ (∃ x_1, Nat.le x_1 x.bs.length ∧ ((↑x_1 : Int) = (0 : Int) ∧ x.b ++ uintB (wr IntKind.u64 (↑x.bs.length :
  Int)) ++ brsB (List.take x_1 x.bs) = x.b ++ uintB (wr IntKind.u64 (↑x.bs.length : Int))) ∧ ((x.bs = x.bs ∧ True) ∧ x.b = x.b ∧ True) ∧ True) ∧ ∀ (x_1 :
  Nat), x_1.le x.bs.length → (↑x.bs.length : Int) ≤ (9223372036854775807 : Int) → (decide ((↑x_1 : Int) < (↑x.bs.length : Int)) = true → (0 : Int) ≤
  (↑x_1 : Int) ∧ (↑x_1 : Int) < (↑x.bs.length : Int) ∧ ∀ (y : AA (48 : Nat)), x.bs[(↑x_1 : Int).toNat]? = some y → (↑y.keys.length : Int) ≤
  (9223372036854775807 : Int) → (x.b ++ uintB (wr IntKind.u64 (↑x.bs.length : Int)) ++ brsB (List.take x_1 x.bs) = x.b ++ uintB (wr IntKind.u64
  (↑x.bs.length : Int)) ++ brsB (List.take x_1 x.bs) ∧ wr IntKind.u64 (↑y.keys.length : Int) = wr IntKind.u64 (↑y.keys.length : Int)) ∧ True ∧ (BN.mk
  (x.b ++ uintB (wr IntKind.u64 (↑x.bs.length : Int)) ++ brsB (List.take x_1 x.bs)) (wr IntKind.u64 (↑y.keys.length : Int))).Low ∧ (∃ x_2, Nat.le x_2
  y.keys.length ∧ ((↑x_2 : Int) = (0 : Int) ∧ x.b ++ uintB (wr IntKind.u64 (↑x.bs.length : Int)) ++ brsB (List.take x_1 x.bs) ++ uintB (wr IntKind.u64
  (↑y.keys.length : Int)) ++ keysB (List.take x_2 y.keys) = x.b ++ uintB (wr IntKind.u64 (↑x.bs.length : Int)) ++ brsB (List.take x_1 x.bs) ++ uintB (wr
  IntKind.u64 (↑y.keys.length : Int))) ∧ ((x.bs = x.bs ∧ True) ∧ x.b = x.b ∧ (y.keys = y.keys ∧ y.lock = y.lock ∧ y.after = y.after ∧ y.older = y.older ∧
  True) ∧ True) ∧ True) ∧ ∀ (x_2 : Nat), x_2.le y.keys.length → (↑y.keys.length : Int) ≤ (9223372036854775807 : Int) → (decide ((↑x_2 : Int) <
  (↑y.keys.length : Int)) = true → (0 : Int) ≤ (↑x_2 : Int) ∧ (↑x_2 : Int) < (↑y.keys.length : Int) ∧ (↑x_2 : Int).toNat < y.keys.length ∧ (x.b ++ uintB
  (wr IntKind.u64 (↑x.bs.length : Int)) ++ brsB (List.take x_1 x.bs) ++ uintB (wr IntKind.u64 (↑y.keys.length : Int)) ++ keysB (List.take x_2 y.keys) =
  x.b ++ uintB (wr IntKind.u64 (↑x.bs.length : Int)) ++ brsB (List.take x_1 x.bs) ++ uintB (wr IntKind.u64 (↑y.keys.length : Int)) ++ keysB (List.take
  x_2 y.keys) ∧ wr IntKind.u64 (y.keys.getD (↑x_2 : Int).toNat (0 : Int)) = wr IntKind.u64 (y.keys.getD (↑x_2 : Int).toNat (0 : Int))) ∧ True ∧ (BN.mk
  (x.b ++ uintB (wr IntKind.u64 (↑x.bs.length : Int)) ++ brsB (List.take x_1 x.bs) ++ uintB (wr IntKind.u64 (↑y.keys.length : Int)) ++ keysB (List.take
  x_2 y.keys)) (wr IntKind.u64 (y.keys.getD (↑x_2 : Int).toNat (0 : Int)))).Low ∧ inI64 ((↑x_2 : Int) + (1 : Int)) ∧ ∃ y_1, Nat.le y_1 y.keys.length ∧
  y.keys.length - y_1 < y.keys.length - x_2 ∧ ((↑y_1 : Int) = (↑x_2 : Int) + (1 : Int) ∧ x.b ++ uintB (wr IntKind.u64 (↑x.bs.length : Int)) ++ brsB
  (List.take x_1 x.bs) ++ uintB (wr IntKind.u64 (↑y.keys.length : Int)) ++ keysB (List.take y_1 y.keys) = x.b ++ uintB (wr IntKind.u64 (↑x.bs.length :
  Int)) ++ brsB (List.take x_1 x.bs) ++ uintB (wr IntKind.u64 (↑y.keys.length : Int)) ++ keysB (List.take x_2 y.keys) ++ uintB (wr IntKind.u64
  (y.keys.getD (↑x_2 : Int).toNat (0 : Int)))) ∧ ((x.bs = x.bs ∧ True) ∧ x.b = x.b ∧ (y.keys = y.keys ∧ y.lock = y.lock ∧ y.after = y.after ∧ y.older =
  y.older ∧ True) ∧ True) ∧ True) ∧ (decide ((↑x_2 : Int) < (↑y.keys.length : Int)) = false → (x.b ++ uintB (wr IntKind.u64 (↑x.bs.length : Int)) ++ brsB
  (List.take x_1 x.bs) ++ uintB (wr IntKind.u64 (↑y.keys.length : Int)) ++ keysB (List.take x_2 y.keys) = x.b ++ uintB (wr IntKind.u64 (↑x.bs.length :
  Int)) ++ brsB (List.take x_1 x.bs) ++ uintB (wr IntKind.u64 (↑y.keys.length : Int)) ++ keysB (List.take x_2 y.keys) ∧ y.lock = y.lock ∧ True) ∧ True ∧
  (BH.mk (x.b ++ uintB (wr IntKind.u64 (↑x.bs.length : Int)) ++ brsB (List.take x_1 x.bs) ++ uintB (wr IntKind.u64 (↑y.keys.length : Int)) ++ keysB
  (List.take x_2 y.keys)) y.lock).Ok ∧ (x.b ++ uintB (wr IntKind.u64 (↑x.bs.length : Int)) ++ brsB (List.take x_1 x.bs) ++ uintB (wr IntKind.u64
  (↑y.keys.length : Int)) ++ keysB (List.take x_2 y.keys) ++ y.lock = x.b ++ uintB (wr IntKind.u64 (↑x.bs.length : Int)) ++ brsB (List.take x_1 x.bs) ++
  uintB (wr IntKind.u64 (↑y.keys.length : Int)) ++ keysB (List.take x_2 y.keys) ++ y.lock ∧ wr IntKind.u64 y.after = wr IntKind.u64 y.after) ∧ True ∧
  (BN.mk (x.b ++ uintB (wr IntKind.u64 (↑x.bs.length : Int)) ++ brsB (List.take x_1 x.bs) ++ uintB (wr IntKind.u64 (↑y.keys.length : Int)) ++ keysB
  (List.take x_2 y.keys) ++ y.lock) (wr IntKind.u64 y.after)).Low ∧ (x.b ++ uintB (wr IntKind.u64 (↑x.bs.length : Int)) ++ brsB (List.take x_1 x.bs) ++
  uintB (wr IntKind.u64 (↑y.keys.length : Int)) ++ keysB (List.take x_2 y.keys) ++ y.lock ++ uintB (wr IntKind.u64 y.after) = x.b ++ uintB (wr
  IntKind.u64 (↑x.bs.length : Int)) ++ brsB (List.take x_1 x.bs) ++ uintB (wr IntKind.u64 (↑y.keys.length : Int)) ++ keysB (List.take x_2 y.keys) ++
  y.lock ++ uintB (wr IntKind.u64 y.after) ∧ wr IntKind.u64 y.older = wr IntKind.u64 y.older) ∧ True ∧ (BN.mk (x.b ++ uintB (wr IntKind.u64 (↑x.bs.length
  : Int)) ++ brsB (List.take x_1 x.bs) ++ uintB (wr IntKind.u64 (↑y.keys.length : Int)) ++ keysB (List.take x_2 y.keys) ++ y.lock ++ uintB (wr
  IntKind.u64 y.after)) (wr IntKind.u64 y.older)).Low ∧ inI64 ((↑x_1 : Int) + (1 : Int)) ∧ ∃ y_1, Nat.le y_1 x.bs.length ∧ x.bs.length - y_1 <
  x.bs.length - x_1 ∧ ((↑y_1 : Int) = (↑x_1 : Int) + (1 : Int) ∧ x.b ++ uintB (wr IntKind.u64 (↑x.bs.length : Int)) ++ brsB (List.take y_1 x.bs) = x.b ++
  uintB (wr IntKind.u64 (↑x.bs.length : Int)) ++ brsB (List.take x_1 x.bs) ++ uintB (wr IntKind.u64 (↑y.keys.length : Int)) ++ keysB (List.take x_2
  y.keys) ++ y.lock ++ uintB (wr IntKind.u64 y.after) ++ uintB (wr IntKind.u64 y.older)) ∧ ((x.bs = x.bs ∧ True) ∧ x.b = x.b ∧ True) ∧ True)) ∧ (decide
  ((↑x_1 : Int) < (↑x.bs.length : Int)) = false → x.b ++ putB x.bs = x.b ++ uintB (wr IntKind.u64 (↑x.bs.length : Int)) ++ brsB (List.take x_1 x.bs) ∧
  True ∧ True))) ∧ ((↑x.bs.length : Int) ≤ (9223372036854775807 : Int) → x.b.length * (1 : Nat) ≤ (140737488355328 : Nat) ∧ x.b.length ≤
  (1152921504606846976 : Nat) ∧ (x.b = x.b ∧ wr IntKind.u64 (↑x.bs.length : Int) = wr IntKind.u64 (↑x.bs.length : Int)) ∧ True ∧ (BN.mk x.b (wr
  IntKind.u64 (↑x.bs.length : Int))).Low ∧ (∃ x_1, Nat.le x_1 x.bs.length ∧ ((↑x_1 : Int) = (0 : Int) ∧ x.b ++ uintB (wr IntKind.u64 (↑x.bs.length :
  Int)) ++ brsB (List.take x_1 x.bs) = x.b ++ uintB (wr IntKind.u64 (↑x.bs.length : Int))) ∧ ((x.bs = x.bs ∧ True) ∧ x.b = x.b ∧ True) ∧ True) ∧ ∀ (x_1 :
  Nat), x_1.le x.bs.length → (↑x.bs.length : Int) ≤ (9223372036854775807 : Int) → (decide ((↑x_1 : Int) < (↑x.bs.length : Int)) = true → (0 : Int) ≤
  (↑x_1 : Int) ∧ (↑x_1 : Int) < (↑x.bs.length : Int) ∧ ∀ (y : AA (48 : Nat)), x.bs[(↑x_1 : Int).toNat]? = some y → (↑y.keys.length : Int) ≤
  (9223372036854775807 : Int) → (x.b ++ uintB (wr IntKind.u64 (↑x.bs.length : Int)) ++ brsB (List.take x_1 x.bs) = x.b ++ uintB (wr IntKind.u64
  (↑x.bs.length : Int)) ++ brsB (List.take x_1 x.bs) ∧ wr IntKind.u64 (↑y.keys.length : Int) = wr IntKind.u64 (↑y.keys.length : Int)) ∧ True ∧ (BN.mk
  (x.b ++ uintB (wr IntKind.u64 (↑x.bs.length : Int)) ++ brsB (List.take x_1 x.bs)) (wr IntKind.u64 (↑y.keys.length : Int))).Low ∧ (∃ x_2, Nat.le x_2
  y.keys.length ∧ ((↑x_2 : Int) = (0 : Int) ∧ x.b ++ uintB (wr IntKind.u64 (↑x.bs.length : Int)) ++ brsB (List.take x_1 x.bs) ++ uintB (wr IntKind.u64
  (↑y.keys.length : Int)) ++ keysB (List.take x_2 y.keys) = x.b ++ uintB (wr IntKind.u64 (↑x.bs.length : Int)) ++ brsB (List.take x_1 x.bs) ++ uintB (wr
  IntKind.u64 (↑y.keys.length : Int))) ∧ ((x.bs = x.bs ∧ True) ∧ x.b = x.b ∧ (y.keys = y.keys ∧ y.lock = y.lock ∧ y.after = y.after ∧ y.older = y.older ∧
  True) ∧ True) ∧ True) ∧ ∀ (x_2 : Nat), x_2.le y.keys.length → (↑y.keys.length : Int) ≤ (9223372036854775807 : Int) → (decide ((↑x_2 : Int) <
  (↑y.keys.length : Int)) = true → (0 : Int) ≤ (↑x_2 : Int) ∧ (↑x_2 : Int) < (↑y.keys.length : Int) ∧ (↑x_2 : Int).toNat < y.keys.length ∧ (x.b ++ uintB
  (wr IntKind.u64 (↑x.bs.length : Int)) ++ brsB (List.take x_1 x.bs) ++ uintB (wr IntKind.u64 (↑y.keys.length : Int)) ++ keysB (List.take x_2 y.keys) =
  x.b ++ uintB (wr IntKind.u64 (↑x.bs.length : Int)) ++ brsB (List.take x_1 x.bs) ++ uintB (wr IntKind.u64 (↑y.keys.length : Int)) ++ keysB (List.take
  x_2 y.keys) ∧ wr IntKind.u64 (y.keys.getD (↑x_2 : Int).toNat (0 : Int)) = wr IntKind.u64 (y.keys.getD (↑x_2 : Int).toNat (0 : Int))) ∧ True ∧ (BN.mk
  (x.b ++ uintB (wr IntKind.u64 (↑x.bs.length : Int)) ++ brsB (List.take x_1 x.bs) ++ uintB (wr IntKind.u64 (↑y.keys.length : Int)) ++ keysB (List.take
  x_2 y.keys)) (wr IntKind.u64 (y.keys.getD (↑x_2 : Int).toNat (0 : Int)))).Low ∧ inI64 ((↑x_2 : Int) + (1 : Int)) ∧ ∃ y_1, Nat.le y_1 y.keys.length ∧
  y.keys.length - y_1 < y.keys.length - x_2 ∧ ((↑y_1 : Int) = (↑x_2 : Int) + (1 : Int) ∧ x.b ++ uintB (wr IntKind.u64 (↑x.bs.length : Int)) ++ brsB
  (List.take x_1 x.bs) ++ uintB (wr IntKind.u64 (↑y.keys.length : Int)) ++ keysB (List.take y_1 y.keys) = x.b ++ uintB (wr IntKind.u64 (↑x.bs.length :
  Int)) ++ brsB (List.take x_1 x.bs) ++ uintB (wr IntKind.u64 (↑y.keys.length : Int)) ++ keysB (List.take x_2 y.keys) ++ uintB (wr IntKind.u64
  (y.keys.getD (↑x_2 : Int).toNat (0 : Int)))) ∧ ((x.bs = x.bs ∧ True) ∧ x.b = x.b ∧ (y.keys = y.keys ∧ y.lock = y.lock ∧ y.after = y.after ∧ y.older =
  y.older ∧ True) ∧ True) ∧ True) ∧ (decide ((↑x_2 : Int) < (↑y.keys.length : Int)) = false → (x.b ++ uintB (wr IntKind.u64 (↑x.bs.length : Int)) ++ brsB
  (List.take x_1 x.bs) ++ uintB (wr IntKind.u64 (↑y.keys.length : Int)) ++ keysB (List.take x_2 y.keys) = x.b ++ uintB (wr IntKind.u64 (↑x.bs.length :
  Int)) ++ brsB (List.take x_1 x.bs) ++ uintB (wr IntKind.u64 (↑y.keys.length : Int)) ++ keysB (List.take x_2 y.keys) ∧ y.lock = y.lock ∧ True) ∧ True ∧
  (BH.mk (x.b ++ uintB (wr IntKind.u64 (↑x.bs.length : Int)) ++ brsB (List.take x_1 x.bs) ++ uintB (wr IntKind.u64 (↑y.keys.length : Int)) ++ keysB
  (List.take x_2 y.keys)) y.lock).Ok ∧ (x.b ++ uintB (wr IntKind.u64 (↑x.bs.length : Int)) ++ brsB (List.take x_1 x.bs) ++ uintB (wr IntKind.u64
  (↑y.keys.length : Int)) ++ keysB (List.take x_2 y.keys) ++ y.lock = x.b ++ uintB (wr IntKind.u64 (↑x.bs.length : Int)) ++ brsB (List.take x_1 x.bs) ++
  uintB (wr IntKind.u64 (↑y.keys.length : Int)) ++ keysB (List.take x_2 y.keys) ++ y.lock ∧ wr IntKind.u64 y.after = wr IntKind.u64 y.after) ∧ True ∧
  (BN.mk (x.b ++ uintB (wr IntKind.u64 (↑x.bs.length : Int)) ++ brsB (List.take x_1 x.bs) ++ uintB (wr IntKind.u64 (↑y.keys.length : Int)) ++ keysB
  (List.take x_2 y.keys) ++ y.lock) (wr IntKind.u64 y.after)).Low ∧ (x.b ++ uintB (wr IntKind.u64 (↑x.bs.length : Int)) ++ brsB (List.take x_1 x.bs) ++
  uintB (wr IntKind.u64 (↑y.keys.length : Int)) ++ keysB (List.take x_2 y.keys) ++ y.lock ++ uintB (wr IntKind.u64 y.after) = x.b ++ uintB (wr
  IntKind.u64 (↑x.bs.length : Int)) ++ brsB (List.take x_1 x.bs) ++ uintB (wr IntKind.u64 (↑y.keys.length : Int)) ++ keysB (List.take x_2 y.keys) ++
  y.lock ++ uintB (wr IntKind.u64 y.after) ∧ wr IntKind.u64 y.older = wr IntKind.u64 y.older) ∧ True ∧ (BN.mk (x.b ++ uintB (wr IntKind.u64 (↑x.bs.length
  : Int)) ++ brsB (List.take x_1 x.bs) ++ uintB (wr IntKind.u64 (↑y.keys.length : Int)) ++ keysB (List.take x_2 y.keys) ++ y.lock ++ uintB (wr
  IntKind.u64 y.after)) (wr IntKind.u64 y.older)).Low ∧ inI64 ((↑x_1 : Int) + (1 : Int)) ∧ ∃ y_1, Nat.le y_1 x.bs.length ∧ x.bs.length - y_1 <
  x.bs.length - x_1 ∧ ((↑y_1 : Int) = (↑x_1 : Int) + (1 : Int) ∧ x.b ++ uintB (wr IntKind.u64 (↑x.bs.length : Int)) ++ brsB (List.take y_1 x.bs) = x.b ++
  uintB (wr IntKind.u64 (↑x.bs.length : Int)) ++ brsB (List.take x_1 x.bs) ++ uintB (wr IntKind.u64 (↑y.keys.length : Int)) ++ keysB (List.take x_2
  y.keys) ++ y.lock ++ uintB (wr IntKind.u64 y.after) ++ uintB (wr IntKind.u64 y.older)) ∧ ((x.bs = x.bs ∧ True) ∧ x.b = x.b ∧ True) ∧ True)) ∧ (decide
  ((↑x_1 : Int) < (↑x.bs.length : Int)) = false → x.b ++ putB x.bs = x.b ++ uintB (wr IntKind.u64 (↑x.bs.length : Int)) ++ brsB (List.take x_1 x.bs) ∧
  True ∧ True))

theorem rPut_eq : rPutVC = fnS E74 f26 (bodyOf f26) rPutLS rPutAnn := by kernel_rfl
theorem rPut_vc : rPutVC := by
  rintro ⟨b, bs⟩ ⟨hb, hw, hlk⟩
  simp only at hb hw hlk
  have low : ∀ (xs : List Int) (n : Int), xs.length ≤ 1000000000000 → (BN.mk xs (wr .u64 n)).Low := fun xs n h => ⟨h, u64_wr n⟩
  have p0 := uintB_le (bs.length : Int)
  simp only [true_and, and_true, decide_eq_true_eq, decide_eq_false_iff_not, Int.toNat_natCast]
  refine dup (by omega) (by omega) ⟨low _ _ (by omega), ⟨0, Nat.zero_le _, rfl, by simp [brsB]⟩, fun i hi _ => ⟨fun h => ?_, fun h => ?_⟩⟩
  · have hi' : i < bs.length := by omega
    have p1 := brsB_take_le hlk i
    refine ⟨by omega, by omega, fun y hy _ => ?_⟩
    have p2 := uintB_le (y.keys.length : Int)
    have p3 : y.keys.length ≤ weight bs := key_w hy
    have hl : y.lock.length = 32 := hlk y (List.mem_of_getElem? hy)
    refine ⟨low _ _ (by simp only [List.length_append]; omega), ⟨0, Nat.zero_le _, rfl, by simp [keysB]⟩, fun k hk _ => ⟨fun h2 => ?_, fun h2 => ?_⟩⟩
    · have hk' : k < y.keys.length := by omega
      have p4 := keysB_take_le y.keys k
      exact ⟨by omega, by omega, by omega, low _ _ (by simp only [List.length_append]; omega), by unfold inI64; omega, k + 1, hk', by omega, by omega, by rw [keysB_up hk']; simp only [List.append_assoc]⟩
    · have p4 := keysB_take_le y.keys k
      have p5 := uintB_le y.after
      have e1 : y.keys.take k = y.keys := List.take_of_length_le (by omega)
      have F1 : (BH.mk (b ++ uintB (wr .u64 (bs.length : Int)) ++ brsB (bs.take i) ++ uintB (wr .u64 (y.keys.length : Int)) ++ keysB (y.keys.take k)) y.lock).Ok := ⟨by simp only [List.length_append]; omega, hl⟩
      have F2 : (BN.mk (b ++ uintB (wr .u64 (bs.length : Int)) ++ brsB (bs.take i) ++ uintB (wr .u64 (y.keys.length : Int)) ++ keysB (y.keys.take k) ++ y.lock) (wr .u64 y.after)).Low := low _ _ (by simp only [List.length_append]; omega)
      have F3 : (BN.mk (b ++ uintB (wr .u64 (bs.length : Int)) ++ brsB (bs.take i) ++ uintB (wr .u64 (y.keys.length : Int)) ++ keysB (y.keys.take k) ++ y.lock ++ uintB (wr .u64 y.after)) (wr .u64 y.older)).Low := low _ _ (by simp only [List.length_append]; omega)
      have F4 : inI64 ((i : Int) + 1) := by unfold inI64; omega
      have F5 : ∃ j, Nat.le j bs.length ∧ bs.length - j < bs.length - i ∧ (j : Int) = (i : Int) + 1 ∧ b ++ uintB (wr .u64 (bs.length : Int)) ++ brsB (bs.take j) = b ++ uintB (wr .u64 (bs.length : Int)) ++ brsB (bs.take i) ++ uintB (wr .u64 (y.keys.length : Int)) ++ keysB (y.keys.take k) ++ y.lock ++ uintB (wr .u64 y.after) ++ uintB (wr .u64 y.older) :=
        ⟨i + 1, hi', by omega, by omega, by rw [brsB_up (y := y) hy, e1]; simp only [brB, List.append_assoc]⟩
      simp only [F1, F2, F3, F4, F5, and_self]
  · have p1 := brsB_le hlk
    have e1 : bs.take i = bs := List.take_of_length_le (by omega)
    rw [e1]
    simp only [putB, List.append_assoc]
theorem rPut_ok : Fits E74 f26 (bodyOf f26) rPutLS rPutAnn := by
  constructor
  rw [← rPut_eq]
  exact rPut_vc
theorem f26_has : Has prog 26 f26 (bodyOf f26) := ⟨by kernel_rfl, by kernel_rfl, by kernel_rfl⟩
theorem known75 : Known prog L75 := by
  unfold L75
  exact known74.lent mixed f26_has E74_eq rPut_ok (fun _ _ => Nat.le_refl _) (fun _ _ => rfl)
end Go.Proofs.YtcglahfmnoghjaaDoor

/-! The document's All; CondAll: plain laws; the walks hold. Conditions: none. -/
namespace Go.Proofs.YtcglahfmnoghjaaDoor
open Go Go.Eng Go.Proofs.Tryd

/-! ## Plain laws: what rises, by what is in it -/
def Rises (l : List Int) : Prop := l.Pairwise (· < ·)
theorem rises_ext : ∀ {a b : List Int}, Rises a → Rises b → (∀ y, y ∈ a ↔ y ∈ b) → a = b
  | [], [], _, _, _ => rfl
  | [], y :: b, _, _, h => by have := (h y).2 (by simp); simp at this
  | x :: a, [], _, _, h => by have := (h x).1 (by simp); simp at this
  | x :: a, y :: b, ha, hb, h => by
    obtain ⟨h1, h2⟩ := List.pairwise_cons.1 ha
    obtain ⟨h3, h4⟩ := List.pairwise_cons.1 hb
    have hxy : x = y := by
      rcases List.mem_cons.1 ((h x).1 (by simp)) with e | e
      · exact e
      · rcases List.mem_cons.1 ((h y).2 (by simp)) with e' | e'
        · exact e'.symm
        · have := h1 y e'
          have := h3 x e
          omega
    subst hxy
    rw [rises_ext h2 h4 (fun z => ?_)]
    constructor
    · intro hz
      rcases List.mem_cons.1 ((h z).1 (List.mem_cons_of_mem _ hz)) with e | e
      · subst e; have := h1 z hz; omega
      · exact e
    · intro hz
      rcases List.mem_cons.1 ((h z).2 (List.mem_cons_of_mem _ hz)) with e | e
      · subst e; have := h3 z hz; omega
      · exact e
def insR (k : Int) : List Int → List Int
  | [] => [k]
  | x :: l => if x < k then x :: insR k l else k :: x :: l
theorem insR_eq (k : Int) : ∀ l : List Int, l.take (lowN k l) ++ [k] ++ l.drop (lowN k l) = insR k l
  | [] => rfl
  | x :: l => by
    have ih := insR_eq k l
    simp only [lowN, insR]
    split
    · simp only [List.take_succ_cons, List.drop_succ_cons, List.cons_append]
      rw [ih]
    · simp
theorem insR_mem (k y : Int) : ∀ l : List Int, y ∈ insR k l ↔ y = k ∨ y ∈ l
  | [] => by simp [insR]
  | x :: l => by
    simp only [insR]
    split
    · simp only [List.mem_cons, insR_mem k y l]
      constructor
      · rintro (h | h | h) <;> simp [h]
      · rintro (h | h | h) <;> simp [h]
    · simp only [List.mem_cons]
theorem insR_rises {k : Int} : ∀ {l : List Int}, Rises l → k ∉ l → Rises (insR k l)
  | [], _, _ => by simp [insR, Rises]
  | x :: l, h, hk => by
    obtain ⟨h1, h2⟩ := List.pairwise_cons.1 h
    simp only [List.mem_cons, not_or] at hk
    simp only [insR]
    split
    · rename_i hx
      refine List.pairwise_cons.2 ⟨fun z hz => ?_, insR_rises h2 hk.2⟩
      rcases (insR_mem k z l).1 hz with e | e
      · subst e; exact hx
      · exact h1 z e
    · rename_i hx
      refine List.pairwise_cons.2 ⟨fun z hz => ?_, h⟩
      rcases List.mem_cons.1 hz with e | e
      · subst e; omega
      · have := h1 z e; omega
theorem insU_eq {l : List Int} {k : Int} (h : k ∉ l) : insU l k = insR k l := by
  unfold insU
  rw [if_neg h, insR_eq]
theorem insU_spec {l : List Int} (k : Int) (h : Rises l) : Rises (insU l k) ∧ ∀ y, y ∈ insU l k ↔ y ∈ l ∨ y = k := by
  by_cases hk : k ∈ l
  · unfold insU
    rw [if_pos hk]
    refine ⟨h, fun y => ⟨.inl, fun hy => hy.elim id (fun e => e ▸ hk)⟩⟩
  · rw [insU_eq hk]
    exact ⟨insR_rises h hk, fun y => by rw [insR_mem]; exact or_comm⟩
theorem foldU_spec : ∀ (l acc : List Int), Rises acc → Rises (l.foldl insU acc) ∧ ∀ y, y ∈ l.foldl insU acc ↔ y ∈ acc ∨ y ∈ l
  | [], acc, h => ⟨h, fun y => by simp⟩
  | k :: l, acc, h => by
    obtain ⟨h1, h2⟩ := insU_spec k h
    obtain ⟨h3, h4⟩ := foldU_spec l (insU acc k) h1
    refine ⟨h3, fun y => ?_⟩
    rw [List.foldl_cons, h4, h2, List.mem_cons, or_assoc]
theorem upOf_spec (l : List Int) : Rises (upOf l) ∧ ∀ y, y ∈ upOf l ↔ y ∈ l := by
  obtain ⟨h1, h2⟩ := foldU_spec l [] List.Pairwise.nil
  exact ⟨h1, fun y => by rw [upOf, h2]; simp⟩
theorem upOf_up {xs : List Int} {i : Nat} (h : i < xs.length) : upOf (xs.take (i + 1)) = insU (upOf (xs.take i)) (xs.getD i 0) := by
  unfold upOf
  rw [take_up h rfl, List.foldl_append]
  rfl
theorem insU_len (l : List Int) (k : Int) : (insU l k).length ≤ l.length + 1 := by
  unfold insU
  split
  · omega
  · simp only [List.length_append, List.length_take, List.length_drop, List.length_singleton]
    omega
theorem upOf_len {xs : List Int} : ∀ {i : Nat}, i ≤ xs.length → (upOf (xs.take i)).length ≤ i
  | 0, _ => by simp [upOf]
  | i + 1, h => by
    rw [upOf_up (by omega)]
    have h1 := insU_len (upOf (xs.take i)) (xs.getD i 0)
    have h2 := upOf_len (xs := xs) (i := i) (by omega)
    omega
open Lib in
theorem compact_upto {zs : List Int} (hs : ∀ (i j : Nat), i < j → j < zs.length → zs.getD i 0 ≤ zs.getD j 0) : ∀ m, m ≤ zs.length → Rises (compactUpTo zs.toArray m) ∧ ∀ y, y ∈ compactUpTo zs.toArray m ↔ ∃ j, j < m ∧ zs.getD j 0 = y
  | 0, _ => by
    refine ⟨?_, fun y => ?_⟩
    · simp [compactUpTo, Rises]
    · simp [compactUpTo]
  | m + 1, hm => by
    obtain ⟨h1, h2⟩ := compact_upto hs m (by omega)
    have hget : ∀ j, j < zs.length → zs.toArray[j]! = zs.getD j 0 := fun j hj => by
      rw [List.getD_eq_getElem?_getD, List.getElem?_eq_getElem hj]
      simp [hj]
    rw [compactUpTo_succ]
    have hk : keeps zs.toArray m = true ↔ m = 0 ∨ zs.getD m 0 ≠ zs.getD (m - 1) 0 := by
      unfold keeps
      rw [← hget m (by omega), ← hget (m - 1) (by omega)]
      simp
    split
    · rename_i hkm
      rw [hget m (by omega)]
      refine ⟨?_, fun y => ?_⟩
      · unfold Rises at h1 ⊢
        rw [List.pairwise_append]
        refine ⟨h1, by simp, fun x hx y hy => ?_⟩
        simp only [List.mem_singleton] at hy
        subst hy
        obtain ⟨j, hj, rfl⟩ := (h2 x).1 hx
        rcases hk.1 hkm with h0 | h0
        · omega
        · have e1 : zs.getD j 0 ≤ zs.getD (m - 1) 0 := by
            rcases Nat.lt_or_ge j (m - 1) with e | e
            · exact hs j (m - 1) e (by omega)
            · rw [show j = m - 1 from by omega]; omega
          have e2 := hs (m - 1) m (by omega) (by omega)
          omega
      · rw [List.mem_append, h2, List.mem_singleton]
        constructor
        · rintro (⟨j, hj, e⟩ | e)
          · exact ⟨j, by omega, e⟩
          · exact ⟨m, by omega, e.symm⟩
        · rintro ⟨j, hj, e⟩
          rcases Nat.lt_or_ge j m with h | h
          · exact .inl ⟨j, h, e⟩
          · rw [show j = m from by omega] at e; exact .inr e.symm
    · rename_i hkm
      rw [List.append_nil]
      refine ⟨h1, fun y => ?_⟩
      rw [h2]
      have hn : ¬ (m = 0 ∨ zs.getD m 0 ≠ zs.getD (m - 1) 0) := fun h => hkm (hk.2 h)
      have hm0 : m ≠ 0 := fun h => hn (.inl h)
      have hm1 : zs.getD m 0 = zs.getD (m - 1) 0 := Classical.byContradiction fun h => hn (.inr h)
      constructor
      · rintro ⟨j, hj, e⟩
        exact ⟨j, by omega, e⟩
      · rintro ⟨j, hj, e⟩
        rcases Nat.lt_or_ge j m with h | h
        · exact ⟨j, h, e⟩
        · rw [show j = m from by omega, hm1] at e
          exact ⟨m - 1, by omega, e⟩
theorem sortI_up (xs : List Int) : ∀ (i j : Nat), i < j → j < (sortI xs).length → (sortI xs).getD i 0 ≤ (sortI xs).getD j 0 := by
  intro i j hij hj
  have h := List.pairwise_mergeSort (le := fun x y : Int => decide (x ≤ y)) (fun a b c h1 h2 => by simp only [decide_eq_true_eq] at *; omega) (fun a b => by simp only [Bool.or_eq_true, decide_eq_true_eq]; omega) xs
  have h2 := List.pairwise_iff_getElem.1 h i j (by unfold sortI at hj; omega) (by unfold sortI at hj; exact hj) hij
  simp only [decide_eq_true_eq] at h2
  rw [List.getD_eq_getElem?_getD, List.getD_eq_getElem?_getD, List.getElem?_eq_getElem (by omega), List.getElem?_eq_getElem hj]
  exact h2
theorem compact_up (xs : List Int) : Lib.compact (sortI xs) = upOf xs := by
  obtain ⟨h1, h2⟩ := compact_upto (sortI_up xs) (sortI xs).length (Nat.le_refl _)
  obtain ⟨h3, h4⟩ := upOf_spec xs
  refine rises_ext h1 h3 (fun y => ?_)
  rw [h4]
  refine (h2 y).trans ?_
  have hm : y ∈ sortI xs ↔ y ∈ xs := by unfold sortI; exact List.mem_mergeSort
  rw [← hm]
  constructor
  · rintro ⟨j, hj, e⟩
    rw [← e, List.getD_eq_getElem?_getD, List.getElem?_eq_getElem hj]
    exact List.getElem_mem hj
  · intro hy
    obtain ⟨j, hj, e⟩ := List.mem_iff_getElem.1 hy
    exact ⟨j, hj, by rw [List.getD_eq_getElem?_getD, List.getElem?_eq_getElem hj]; exact e⟩
theorem allOf_up (xs : List Int) : allOf xs = [⟨upOf xs, List.replicate 32 0, 0, 0⟩] := by
  unfold allOf
  rw [compact_up]
end Go.Proofs.YtcglahfmnoghjaaDoor

/-! The document's All; CondAll: their walks hold. Conditions: none. -/
namespace Go.Proofs.YtcglahfmnoghjaaDoor
open Go Go.Eng Go.Proofs.Tryd

theorem lowN_drop {y : Int} {l : List Int} {k : Nat} (h : k < l.length) (hlt : l.getD k 0 < y) : lowN y (l.drop k) = 1 + lowN y (l.drop (k + 1)) := by
  rw [drop_cons' h]
  simp only [lowN, if_pos hlt]
  omega
theorem lowN_stop {y : Int} {l : List Int} {k : Nat} (h : k < l.length) (hlt : ¬ l.getD k 0 < y) : lowN y (l.drop k) = 0 := by
  rw [drop_cons' h]
  simp only [lowN, if_neg hlt]
def rAllVC : Prop := ∀ (x : List Int), x.length.le (1000000 : Nat) → (∃ x_1, Nat.le x_1 x.length ∧ ((↑x_1 : Int) = (0 : Int) ∧ upOf (List.take x_1 x) = []) ∧ (((SV.val (A
  := AA) (Value.slice none (0 : Nat) (0 : Nat)) : SV AA) = SV.val (A := AA) (Value.slice none (0 : Nat) (0 : Nat)) ∧ True) ∧ True) ∧ True) ∧ ∀ (x_1 :
  Nat), x_1.le x.length → (↑x.length : Int) ≤ (9223372036854775807 : Int) → (decide ((↑x_1 : Int) < (↑x.length : Int)) = true → (0 : Int) ≤ (↑x_1 : Int)
  ∧ (↑x_1 : Int) < (↑x.length : Int) ∧ (↑x_1 : Int).toNat < x.length ∧ (upOf (List.take x_1 x) = upOf (List.take x_1 x) ∧ x.getD (↑x_1 : Int).toNat (0 :
  Int) = x.getD (↑x_1 : Int).toNat (0 : Int)) ∧ True ∧ True ∧ (decide (x.getD (↑x_1 : Int).toNat (0 : Int) ∈ upOf (List.take x_1 x)) = true → inI64
  ((↑x_1 : Int) + (1 : Int)) ∧ ∃ y, Nat.le y x.length ∧ x.length - y < x.length - x_1 ∧ ((↑y : Int) = (↑x_1 : Int) + (1 : Int) ∧ upOf (List.take y x) =
  upOf (List.take x_1 x)) ∧ (((SV.val (A := AA) (Value.slice none (0 : Nat) (0 : Nat)) : SV AA) = SV.val (A := AA) (Value.slice none (0 : Nat) (0 : Nat))
  ∧ True) ∧ True) ∧ True) ∧ (decide (x.getD (↑x_1 : Int).toNat (0 : Int) ∈ upOf (List.take x_1 x)) = false → (∃ x_2, (x_2 ≤ (upOf (List.take x_1
  x)).length ∧ lowN (x.getD (↑x_1 : Int).toNat (0 : Int)) (upOf (List.take x_1 x)) = x_2 + lowN (x.getD (↑x_1 : Int).toNat (0 : Int)) (List.drop x_2
  (upOf (List.take x_1 x)))) ∧ (↑x_2 : Int) = (0 : Int) ∧ (((SV.val (A := AA) (Value.slice none (0 : Nat) (0 : Nat)) : SV AA) = SV.val (A := AA)
  (Value.slice none (0 : Nat) (0 : Nat)) ∧ True) ∧ True) ∧ True) ∧ ∀ (x_2 : Nat), x_2 ≤ (upOf (List.take x_1 x)).length ∧ lowN (x.getD (↑x_1 : Int).toNat
  (0 : Int)) (upOf (List.take x_1 x)) = x_2 + lowN (x.getD (↑x_1 : Int).toNat (0 : Int)) (List.drop x_2 (upOf (List.take x_1 x))) → (↑(upOf (List.take
  x_1 x)).length : Int) ≤ (9223372036854775807 : Int) → (decide ((↑x_2 : Int) < (↑(upOf (List.take x_1 x)).length : Int)) = true → (0 : Int) ≤ (↑x_2 :
  Int) ∧ (↑x_2 : Int) < (↑(upOf (List.take x_1 x)).length : Int) ∧ (↑x_2 : Int).toNat < (upOf (List.take x_1 x)).length ∧ (0 : Int) ≤ (↑x_1 : Int) ∧
  (↑x_1 : Int) < (↑x.length : Int) ∧ (↑x_1 : Int).toNat < x.length ∧ (decide ((upOf (List.take x_1 x)).getD (↑x_2 : Int).toNat (0 : Int) < x.getD (↑x_1 :
  Int).toNat (0 : Int)) = true → inI64 ((↑x_2 : Int) + (1 : Int)) ∧ ∃ y, (y ≤ (upOf (List.take x_1 x)).length ∧ lowN (x.getD (↑x_1 : Int).toNat (0 :
  Int)) (upOf (List.take x_1 x)) = y + lowN (x.getD (↑x_1 : Int).toNat (0 : Int)) (List.drop y (upOf (List.take x_1 x)))) ∧ (upOf (List.take x_1
  x)).length - y < (upOf (List.take x_1 x)).length - x_2 ∧ (↑y : Int) = (↑x_2 : Int) + (1 : Int) ∧ (((SV.val (A := AA) (Value.slice none (0 : Nat) (0 :
  Nat)) : SV AA) = SV.val (A := AA) (Value.slice none (0 : Nat) (0 : Nat)) ∧ True) ∧ True) ∧ True) ∧ (decide ((upOf (List.take x_1 x)).getD (↑x_2 :
  Int).toNat (0 : Int) < x.getD (↑x_1 : Int).toNat (0 : Int)) = false → (0 : Int) ≤ (↑x_1 : Int) ∧ (↑x_1 : Int) < (↑x.length : Int) ∧ ((0 : Int) ≤ (0 :
  Int) ∧ (0 : Int) ≤ (↑x_2 : Int) ∧ (↑x_2 : Int) ≤ (↑(upOf (List.take x_1 x)).length : Int) ∧ ((List.drop (Int.toNat (0 : Int)) (List.take (↑x_2 :
  Int).toNat (upOf (List.take x_1 x)))).length * (8 : Nat) ≤ (140737488355328 : Nat) ∧ (List.drop (Int.toNat (0 : Int)) (List.take (↑x_2 : Int).toNat
  (upOf (List.take x_1 x)))).length ≤ (1152921504606846976 : Nat) ∧ (↑x_1 : Int).toNat < x.length ∧ ((((List.drop (Int.toNat (0 : Int)) (List.take (↑x_2
  : Int).toNat (upOf (List.take x_1 x)))).length + [x.getD (↑x_1 : Int).toNat (0 : Int)].length) * (8 : Nat) ≤ (140737488355328 : Nat) ∧ (List.drop
  (Int.toNat (0 : Int)) (List.take (↑x_2 : Int).toNat (upOf (List.take x_1 x)))).length + [x.getD (↑x_1 : Int).toNat (0 : Int)].length ≤
  (1152921504606846976 : Nat) ∧ (0 : Int) ≤ (↑x_2 : Int) ∧ (↑x_2 : Int) ≤ (↑(upOf (List.take x_1 x)).length : Int) ∧ (↑(upOf (List.take x_1 x)).length :
  Int) ≤ (↑(upOf (List.take x_1 x)).length : Int) ∧ ((List.drop (Int.toNat (0 : Int)) (List.take (↑x_2 : Int).toNat (upOf (List.take x_1 x))) ++ [x.getD
  (↑x_1 : Int).toNat (0 : Int)]).length + (List.drop (↑x_2 : Int).toNat (List.take (↑(upOf (List.take x_1 x)).length : Int).toNat (upOf (List.take x_1
  x)))).length) * (8 : Nat) ≤ (140737488355328 : Nat) ∧ (List.drop (Int.toNat (0 : Int)) (List.take (↑x_2 : Int).toNat (upOf (List.take x_1 x))) ++
  [x.getD (↑x_1 : Int).toNat (0 : Int)]).length + (List.drop (↑x_2 : Int).toNat (List.take (↑(upOf (List.take x_1 x)).length : Int).toNat (upOf
  (List.take x_1 x)))).length ≤ (1152921504606846976 : Nat) ∧ inI64 ((↑x_1 : Int) + (1 : Int)) ∧ ∃ y, Nat.le y x.length ∧ x.length - y < x.length - x_1 ∧
  ((↑y : Int) = (↑x_1 : Int) + (1 : Int) ∧ upOf (List.take y x) = List.drop (Int.toNat (0 : Int)) (List.take (↑x_2 : Int).toNat (upOf (List.take x_1 x)))
  ++ [x.getD (↑x_1 : Int).toNat (0 : Int)] ++ List.drop (↑x_2 : Int).toNat (List.take (↑(upOf (List.take x_1 x)).length : Int).toNat (upOf (List.take x_1
  x)))) ∧ ((SV.val (A := AA) (Value.slice none (0 : Nat) (0 : Nat)) = SV.val (A := AA) (Value.slice none (0 : Nat) (0 : Nat)) ∧ True) ∧ True) ∧ True) ∧
  (0 : Int) ≤ (↑x_2 : Int) ∧ (↑x_2 : Int) ≤ (↑(upOf (List.take x_1 x)).length : Int) ∧ (↑(upOf (List.take x_1 x)).length : Int) ≤ (↑(upOf (List.take x_1
  x)).length : Int) ∧ ((List.drop (Int.toNat (0 : Int)) (List.take (↑x_2 : Int).toNat (upOf (List.take x_1 x)))).length + [x.getD (↑x_1 : Int).toNat (0 :
  Int)].length) * (8 : Nat) ≤ (140737488355328 : Nat) ∧ (List.drop (Int.toNat (0 : Int)) (List.take (↑x_2 : Int).toNat (upOf (List.take x_1 x)))).length
  + [x.getD (↑x_1 : Int).toNat (0 : Int)].length ≤ (1152921504606846976 : Nat) ∧ ((List.drop (Int.toNat (0 : Int)) (List.take (↑x_2 : Int).toNat (upOf
  (List.take x_1 x))) ++ [x.getD (↑x_1 : Int).toNat (0 : Int)]).length + (List.drop (↑x_2 : Int).toNat (List.take (↑(upOf (List.take x_1 x)).length :
  Int).toNat (upOf (List.take x_1 x)))).length) * (8 : Nat) ≤ (140737488355328 : Nat) ∧ (List.drop (Int.toNat (0 : Int)) (List.take (↑x_2 : Int).toNat
  (upOf (List.take x_1 x))) ++ [x.getD (↑x_1 : Int).toNat (0 : Int)]).length + (List.drop (↑x_2 : Int).toNat (List.take (↑(upOf (List.take x_1 x)).length
  : Int).toNat (upOf (List.take x_1 x)))).length ≤ (1152921504606846976 : Nat) ∧ inI64 ((↑x_1 : Int) + (1 : Int)) ∧ ∃ y, Nat.le y x.length ∧ x.length - y
  < x.length - x_1 ∧ ((↑y : Int) = (↑x_1 : Int) + (1 : Int) ∧ upOf (List.take y x) = List.drop (Int.toNat (0 : Int)) (List.take (↑x_2 : Int).toNat (upOf
  (List.take x_1 x))) ++ [x.getD (↑x_1 : Int).toNat (0 : Int)] ++ List.drop (↑x_2 : Int).toNat (List.take (↑(upOf (List.take x_1 x)).length : Int).toNat
  (upOf (List.take x_1 x)))) ∧ ((SV.val (A := AA) (Value.slice none (0 : Nat) (0 : Nat)) = SV.val (A := AA) (Value.slice none (0 : Nat) (0 : Nat)) ∧
  True) ∧ True) ∧ True) ∧ (0 : Int) ≤ (↑x_2 : Int) ∧ (↑x_2 : Int) ≤ (↑(upOf (List.take x_1 x)).length : Int) ∧ (↑(upOf (List.take x_1 x)).length : Int) ≤
  (↑(upOf (List.take x_1 x)).length : Int) ∧ ((List.drop (Int.toNat (0 : Int)) (List.take (↑x_2 : Int).toNat (upOf (List.take x_1 x)))).length + [x.getD
  (↑x_1 : Int).toNat (0 : Int)].length) * (8 : Nat) ≤ (140737488355328 : Nat) ∧ (List.drop (Int.toNat (0 : Int)) (List.take (↑x_2 : Int).toNat (upOf
  (List.take x_1 x)))).length + [x.getD (↑x_1 : Int).toNat (0 : Int)].length ≤ (1152921504606846976 : Nat) ∧ ((List.drop (Int.toNat (0 : Int)) (List.take
  (↑x_2 : Int).toNat (upOf (List.take x_1 x))) ++ [x.getD (↑x_1 : Int).toNat (0 : Int)]).length + (List.drop (↑x_2 : Int).toNat (List.take (↑(upOf
  (List.take x_1 x)).length : Int).toNat (upOf (List.take x_1 x)))).length) * (8 : Nat) ≤ (140737488355328 : Nat) ∧ (List.drop (Int.toNat (0 : Int))
  (List.take (↑x_2 : Int).toNat (upOf (List.take x_1 x))) ++ [x.getD (↑x_1 : Int).toNat (0 : Int)]).length + (List.drop (↑x_2 : Int).toNat (List.take
  (↑(upOf (List.take x_1 x)).length : Int).toNat (upOf (List.take x_1 x)))).length ≤ (1152921504606846976 : Nat) ∧ inI64 ((↑x_1 : Int) + (1 : Int)) ∧ ∃
  y, Nat.le y x.length ∧ x.length - y < x.length - x_1 ∧ ((↑y : Int) = (↑x_1 : Int) + (1 : Int) ∧ upOf (List.take y x) = List.drop (Int.toNat (0 : Int))
  (List.take (↑x_2 : Int).toNat (upOf (List.take x_1 x))) ++ [x.getD (↑x_1 : Int).toNat (0 : Int)] ++ List.drop (↑x_2 : Int).toNat (List.take (↑(upOf
  (List.take x_1 x)).length : Int).toNat (upOf (List.take x_1 x)))) ∧ ((SV.val (A := AA) (Value.slice none (0 : Nat) (0 : Nat)) = SV.val (A := AA)
  (Value.slice none (0 : Nat) (0 : Nat)) ∧ True) ∧ True) ∧ True) ∧ ((↑x_1 : Int).toNat < x.length ∧ ((List.drop (Int.toNat (0 : Int)) (List.take (↑x_2 :
  Int).toNat (upOf (List.take x_1 x)))).length * (8 : Nat) ≤ (140737488355328 : Nat) ∧ (List.drop (Int.toNat (0 : Int)) (List.take (↑x_2 : Int).toNat
  (upOf (List.take x_1 x)))).length ≤ (1152921504606846976 : Nat) ∧ ((((List.drop (Int.toNat (0 : Int)) (List.take (↑x_2 : Int).toNat (upOf (List.take
  x_1 x)))).length + [x.getD (↑x_1 : Int).toNat (0 : Int)].length) * (8 : Nat) ≤ (140737488355328 : Nat) ∧ (List.drop (Int.toNat (0 : Int)) (List.take
  (↑x_2 : Int).toNat (upOf (List.take x_1 x)))).length + [x.getD (↑x_1 : Int).toNat (0 : Int)].length ≤ (1152921504606846976 : Nat) ∧ (0 : Int) ≤ (↑x_2 :
  Int) ∧ (↑x_2 : Int) ≤ (↑(upOf (List.take x_1 x)).length : Int) ∧ (↑(upOf (List.take x_1 x)).length : Int) ≤ (↑(upOf (List.take x_1 x)).length : Int) ∧
  ((List.drop (Int.toNat (0 : Int)) (List.take (↑x_2 : Int).toNat (upOf (List.take x_1 x))) ++ [x.getD (↑x_1 : Int).toNat (0 : Int)]).length + (List.drop
  (↑x_2 : Int).toNat (List.take (↑(upOf (List.take x_1 x)).length : Int).toNat (upOf (List.take x_1 x)))).length) * (8 : Nat) ≤ (140737488355328 : Nat) ∧
  (List.drop (Int.toNat (0 : Int)) (List.take (↑x_2 : Int).toNat (upOf (List.take x_1 x))) ++ [x.getD (↑x_1 : Int).toNat (0 : Int)]).length + (List.drop
  (↑x_2 : Int).toNat (List.take (↑(upOf (List.take x_1 x)).length : Int).toNat (upOf (List.take x_1 x)))).length ≤ (1152921504606846976 : Nat) ∧ inI64
  ((↑x_1 : Int) + (1 : Int)) ∧ ∃ y, Nat.le y x.length ∧ x.length - y < x.length - x_1 ∧ ((↑y : Int) = (↑x_1 : Int) + (1 : Int) ∧ upOf (List.take y x) =
  List.drop (Int.toNat (0 : Int)) (List.take (↑x_2 : Int).toNat (upOf (List.take x_1 x))) ++ [x.getD (↑x_1 : Int).toNat (0 : Int)] ++ List.drop (↑x_2 :
  Int).toNat (List.take (↑(upOf (List.take x_1 x)).length : Int).toNat (upOf (List.take x_1 x)))) ∧ ((SV.val (A := AA) (Value.slice none (0 : Nat) (0 :
  Nat)) = SV.val (A := AA) (Value.slice none (0 : Nat) (0 : Nat)) ∧ True) ∧ True) ∧ True) ∧ (0 : Int) ≤ (↑x_2 : Int) ∧ (↑x_2 : Int) ≤ (↑(upOf (List.take
  x_1 x)).length : Int) ∧ (↑(upOf (List.take x_1 x)).length : Int) ≤ (↑(upOf (List.take x_1 x)).length : Int) ∧ ((List.drop (Int.toNat (0 : Int))
  (List.take (↑x_2 : Int).toNat (upOf (List.take x_1 x)))).length + [x.getD (↑x_1 : Int).toNat (0 : Int)].length) * (8 : Nat) ≤ (140737488355328 : Nat) ∧
  (List.drop (Int.toNat (0 : Int)) (List.take (↑x_2 : Int).toNat (upOf (List.take x_1 x)))).length + [x.getD (↑x_1 : Int).toNat (0 : Int)].length ≤
  (1152921504606846976 : Nat) ∧ ((List.drop (Int.toNat (0 : Int)) (List.take (↑x_2 : Int).toNat (upOf (List.take x_1 x))) ++ [x.getD (↑x_1 : Int).toNat
  (0 : Int)]).length + (List.drop (↑x_2 : Int).toNat (List.take (↑(upOf (List.take x_1 x)).length : Int).toNat (upOf (List.take x_1 x)))).length) * (8 :
  Nat) ≤ (140737488355328 : Nat) ∧ (List.drop (Int.toNat (0 : Int)) (List.take (↑x_2 : Int).toNat (upOf (List.take x_1 x))) ++ [x.getD (↑x_1 : Int).toNat
  (0 : Int)]).length + (List.drop (↑x_2 : Int).toNat (List.take (↑(upOf (List.take x_1 x)).length : Int).toNat (upOf (List.take x_1 x)))).length ≤
  (1152921504606846976 : Nat) ∧ inI64 ((↑x_1 : Int) + (1 : Int)) ∧ ∃ y, Nat.le y x.length ∧ x.length - y < x.length - x_1 ∧ ((↑y : Int) = (↑x_1 : Int) +
  (1 : Int) ∧ upOf (List.take y x) = List.drop (Int.toNat (0 : Int)) (List.take (↑x_2 : Int).toNat (upOf (List.take x_1 x))) ++ [x.getD (↑x_1 :
  Int).toNat (0 : Int)] ++ List.drop (↑x_2 : Int).toNat (List.take (↑(upOf (List.take x_1 x)).length : Int).toNat (upOf (List.take x_1 x)))) ∧ ((SV.val
  (A := AA) (Value.slice none (0 : Nat) (0 : Nat)) = SV.val (A := AA) (Value.slice none (0 : Nat) (0 : Nat)) ∧ True) ∧ True) ∧ True) ∧ (0 : Int) ≤ (↑x_2
  : Int) ∧ (↑x_2 : Int) ≤ (↑(upOf (List.take x_1 x)).length : Int) ∧ (↑(upOf (List.take x_1 x)).length : Int) ≤ (↑(upOf (List.take x_1 x)).length : Int)
  ∧ ((List.drop (Int.toNat (0 : Int)) (List.take (↑x_2 : Int).toNat (upOf (List.take x_1 x)))).length + [x.getD (↑x_1 : Int).toNat (0 : Int)].length) *
  (8 : Nat) ≤ (140737488355328 : Nat) ∧ (List.drop (Int.toNat (0 : Int)) (List.take (↑x_2 : Int).toNat (upOf (List.take x_1 x)))).length + [x.getD (↑x_1
  : Int).toNat (0 : Int)].length ≤ (1152921504606846976 : Nat) ∧ ((List.drop (Int.toNat (0 : Int)) (List.take (↑x_2 : Int).toNat (upOf (List.take x_1
  x))) ++ [x.getD (↑x_1 : Int).toNat (0 : Int)]).length + (List.drop (↑x_2 : Int).toNat (List.take (↑(upOf (List.take x_1 x)).length : Int).toNat (upOf
  (List.take x_1 x)))).length) * (8 : Nat) ≤ (140737488355328 : Nat) ∧ (List.drop (Int.toNat (0 : Int)) (List.take (↑x_2 : Int).toNat (upOf (List.take
  x_1 x))) ++ [x.getD (↑x_1 : Int).toNat (0 : Int)]).length + (List.drop (↑x_2 : Int).toNat (List.take (↑(upOf (List.take x_1 x)).length : Int).toNat
  (upOf (List.take x_1 x)))).length ≤ (1152921504606846976 : Nat) ∧ inI64 ((↑x_1 : Int) + (1 : Int)) ∧ ∃ y, Nat.le y x.length ∧ x.length - y < x.length -
  x_1 ∧ ((↑y : Int) = (↑x_1 : Int) + (1 : Int) ∧ upOf (List.take y x) = List.drop (Int.toNat (0 : Int)) (List.take (↑x_2 : Int).toNat (upOf (List.take
  x_1 x))) ++ [x.getD (↑x_1 : Int).toNat (0 : Int)] ++ List.drop (↑x_2 : Int).toNat (List.take (↑(upOf (List.take x_1 x)).length : Int).toNat (upOf
  (List.take x_1 x)))) ∧ ((SV.val (A := AA) (Value.slice none (0 : Nat) (0 : Nat)) = SV.val (A := AA) (Value.slice none (0 : Nat) (0 : Nat)) ∧ True) ∧
  True) ∧ True) ∧ (((List.drop (Int.toNat (0 : Int)) (List.take (↑x_2 : Int).toNat (upOf (List.take x_1 x)))).length * (8 : Nat) ≤ (140737488355328 :
  Nat) ∧ (List.drop (Int.toNat (0 : Int)) (List.take (↑x_2 : Int).toNat (upOf (List.take x_1 x)))).length ≤ (1152921504606846976 : Nat) ∧ (((List.drop
  (Int.toNat (0 : Int)) (List.take (↑x_2 : Int).toNat (upOf (List.take x_1 x)))).length + [x.getD (↑x_1 : Int).toNat (0 : Int)].length) * (8 : Nat) ≤
  (140737488355328 : Nat) ∧ (List.drop (Int.toNat (0 : Int)) (List.take (↑x_2 : Int).toNat (upOf (List.take x_1 x)))).length + [x.getD (↑x_1 : Int).toNat
  (0 : Int)].length ≤ (1152921504606846976 : Nat) ∧ (0 : Int) ≤ (↑x_2 : Int) ∧ (↑x_2 : Int) ≤ (↑(upOf (List.take x_1 x)).length : Int) ∧ (↑(upOf
  (List.take x_1 x)).length : Int) ≤ (↑(upOf (List.take x_1 x)).length : Int) ∧ ((List.drop (Int.toNat (0 : Int)) (List.take (↑x_2 : Int).toNat (upOf
  (List.take x_1 x))) ++ [x.getD (↑x_1 : Int).toNat (0 : Int)]).length + (List.drop (↑x_2 : Int).toNat (List.take (↑(upOf (List.take x_1 x)).length :
  Int).toNat (upOf (List.take x_1 x)))).length) * (8 : Nat) ≤ (140737488355328 : Nat) ∧ (List.drop (Int.toNat (0 : Int)) (List.take (↑x_2 : Int).toNat
  (upOf (List.take x_1 x))) ++ [x.getD (↑x_1 : Int).toNat (0 : Int)]).length + (List.drop (↑x_2 : Int).toNat (List.take (↑(upOf (List.take x_1 x)).length
  : Int).toNat (upOf (List.take x_1 x)))).length ≤ (1152921504606846976 : Nat) ∧ inI64 ((↑x_1 : Int) + (1 : Int)) ∧ ∃ y, Nat.le y x.length ∧ x.length - y
  < x.length - x_1 ∧ ((↑y : Int) = (↑x_1 : Int) + (1 : Int) ∧ upOf (List.take y x) = List.drop (Int.toNat (0 : Int)) (List.take (↑x_2 : Int).toNat (upOf
  (List.take x_1 x))) ++ [x.getD (↑x_1 : Int).toNat (0 : Int)] ++ List.drop (↑x_2 : Int).toNat (List.take (↑(upOf (List.take x_1 x)).length : Int).toNat
  (upOf (List.take x_1 x)))) ∧ ((SV.val (A := AA) (Value.slice none (0 : Nat) (0 : Nat)) = SV.val (A := AA) (Value.slice none (0 : Nat) (0 : Nat)) ∧
  True) ∧ True) ∧ True) ∧ (0 : Int) ≤ (↑x_2 : Int) ∧ (↑x_2 : Int) ≤ (↑(upOf (List.take x_1 x)).length : Int) ∧ (↑(upOf (List.take x_1 x)).length : Int) ≤
  (↑(upOf (List.take x_1 x)).length : Int) ∧ ((List.drop (Int.toNat (0 : Int)) (List.take (↑x_2 : Int).toNat (upOf (List.take x_1 x)))).length + [x.getD
  (↑x_1 : Int).toNat (0 : Int)].length) * (8 : Nat) ≤ (140737488355328 : Nat) ∧ (List.drop (Int.toNat (0 : Int)) (List.take (↑x_2 : Int).toNat (upOf
  (List.take x_1 x)))).length + [x.getD (↑x_1 : Int).toNat (0 : Int)].length ≤ (1152921504606846976 : Nat) ∧ ((List.drop (Int.toNat (0 : Int)) (List.take
  (↑x_2 : Int).toNat (upOf (List.take x_1 x))) ++ [x.getD (↑x_1 : Int).toNat (0 : Int)]).length + (List.drop (↑x_2 : Int).toNat (List.take (↑(upOf
  (List.take x_1 x)).length : Int).toNat (upOf (List.take x_1 x)))).length) * (8 : Nat) ≤ (140737488355328 : Nat) ∧ (List.drop (Int.toNat (0 : Int))
  (List.take (↑x_2 : Int).toNat (upOf (List.take x_1 x))) ++ [x.getD (↑x_1 : Int).toNat (0 : Int)]).length + (List.drop (↑x_2 : Int).toNat (List.take
  (↑(upOf (List.take x_1 x)).length : Int).toNat (upOf (List.take x_1 x)))).length ≤ (1152921504606846976 : Nat) ∧ inI64 ((↑x_1 : Int) + (1 : Int)) ∧ ∃
  y, Nat.le y x.length ∧ x.length - y < x.length - x_1 ∧ ((↑y : Int) = (↑x_1 : Int) + (1 : Int) ∧ upOf (List.take y x) = List.drop (Int.toNat (0 : Int))
  (List.take (↑x_2 : Int).toNat (upOf (List.take x_1 x))) ++ [x.getD (↑x_1 : Int).toNat (0 : Int)] ++ List.drop (↑x_2 : Int).toNat (List.take (↑(upOf
  (List.take x_1 x)).length : Int).toNat (upOf (List.take x_1 x)))) ∧ ((SV.val (A := AA) (Value.slice none (0 : Nat) (0 : Nat)) = SV.val (A := AA)
  (Value.slice none (0 : Nat) (0 : Nat)) ∧ True) ∧ True) ∧ True) ∧ (0 : Int) ≤ (↑x_2 : Int) ∧ (↑x_2 : Int) ≤ (↑(upOf (List.take x_1 x)).length : Int) ∧
  (↑(upOf (List.take x_1 x)).length : Int) ≤ (↑(upOf (List.take x_1 x)).length : Int) ∧ (List.drop (Int.toNat (0 : Int)) (List.take (↑x_2 : Int).toNat
  (upOf (List.take x_1 x)))).length * (8 : Nat) ≤ (140737488355328 : Nat) ∧ (List.drop (Int.toNat (0 : Int)) (List.take (↑x_2 : Int).toNat (upOf
  (List.take x_1 x)))).length ≤ (1152921504606846976 : Nat) ∧ ((List.drop (Int.toNat (0 : Int)) (List.take (↑x_2 : Int).toNat (upOf (List.take x_1
  x)))).length + [x.getD (↑x_1 : Int).toNat (0 : Int)].length) * (8 : Nat) ≤ (140737488355328 : Nat) ∧ (List.drop (Int.toNat (0 : Int)) (List.take (↑x_2
  : Int).toNat (upOf (List.take x_1 x)))).length + [x.getD (↑x_1 : Int).toNat (0 : Int)].length ≤ (1152921504606846976 : Nat) ∧ ((List.drop (Int.toNat (0
  : Int)) (List.take (↑x_2 : Int).toNat (upOf (List.take x_1 x))) ++ [x.getD (↑x_1 : Int).toNat (0 : Int)]).length + (List.drop (↑x_2 : Int).toNat
  (List.take (↑(upOf (List.take x_1 x)).length : Int).toNat (upOf (List.take x_1 x)))).length) * (8 : Nat) ≤ (140737488355328 : Nat) ∧ (List.drop
  (Int.toNat (0 : Int)) (List.take (↑x_2 : Int).toNat (upOf (List.take x_1 x))) ++ [x.getD (↑x_1 : Int).toNat (0 : Int)]).length + (List.drop (↑x_2 :
  Int).toNat (List.take (↑(upOf (List.take x_1 x)).length : Int).toNat (upOf (List.take x_1 x)))).length ≤ (1152921504606846976 : Nat) ∧ inI64 ((↑x_1 :
  Int) + (1 : Int)) ∧ ∃ y, Nat.le y x.length ∧ x.length - y < x.length - x_1 ∧ ((↑y : Int) = (↑x_1 : Int) + (1 : Int) ∧ upOf (List.take y x) = List.drop
  (Int.toNat (0 : Int)) (List.take (↑x_2 : Int).toNat (upOf (List.take x_1 x))) ++ [x.getD (↑x_1 : Int).toNat (0 : Int)] ++ List.drop (↑x_2 : Int).toNat
  (List.take (↑(upOf (List.take x_1 x)).length : Int).toNat (upOf (List.take x_1 x)))) ∧ ((SV.val (A := AA) (Value.slice none (0 : Nat) (0 : Nat)) =
  SV.val (A := AA) (Value.slice none (0 : Nat) (0 : Nat)) ∧ True) ∧ True) ∧ True) ∧ (0 : Int) ≤ (↑x_2 : Int) ∧ (↑x_2 : Int) ≤ (↑(upOf (List.take x_1
  x)).length : Int) ∧ (↑(upOf (List.take x_1 x)).length : Int) ≤ (↑(upOf (List.take x_1 x)).length : Int) ∧ ((List.drop (Int.toNat (0 : Int)) (List.take
  (↑x_2 : Int).toNat (upOf (List.take x_1 x)))).length * (8 : Nat) ≤ (140737488355328 : Nat) ∧ (List.drop (Int.toNat (0 : Int)) (List.take (↑x_2 :
  Int).toNat (upOf (List.take x_1 x)))).length ≤ (1152921504606846976 : Nat) ∧ ((List.drop (Int.toNat (0 : Int)) (List.take (↑x_2 : Int).toNat (upOf
  (List.take x_1 x)))).length + [x.getD (↑x_1 : Int).toNat (0 : Int)].length) * (8 : Nat) ≤ (140737488355328 : Nat) ∧ (List.drop (Int.toNat (0 : Int))
  (List.take (↑x_2 : Int).toNat (upOf (List.take x_1 x)))).length + [x.getD (↑x_1 : Int).toNat (0 : Int)].length ≤ (1152921504606846976 : Nat) ∧
  ((List.drop (Int.toNat (0 : Int)) (List.take (↑x_2 : Int).toNat (upOf (List.take x_1 x))) ++ [x.getD (↑x_1 : Int).toNat (0 : Int)]).length + (List.drop
  (↑x_2 : Int).toNat (List.take (↑(upOf (List.take x_1 x)).length : Int).toNat (upOf (List.take x_1 x)))).length) * (8 : Nat) ≤ (140737488355328 : Nat) ∧
  (List.drop (Int.toNat (0 : Int)) (List.take (↑x_2 : Int).toNat (upOf (List.take x_1 x))) ++ [x.getD (↑x_1 : Int).toNat (0 : Int)]).length + (List.drop
  (↑x_2 : Int).toNat (List.take (↑(upOf (List.take x_1 x)).length : Int).toNat (upOf (List.take x_1 x)))).length ≤ (1152921504606846976 : Nat) ∧ inI64
  ((↑x_1 : Int) + (1 : Int)) ∧ ∃ y, Nat.le y x.length ∧ x.length - y < x.length - x_1 ∧ ((↑y : Int) = (↑x_1 : Int) + (1 : Int) ∧ upOf (List.take y x) =
  List.drop (Int.toNat (0 : Int)) (List.take (↑x_2 : Int).toNat (upOf (List.take x_1 x))) ++ [x.getD (↑x_1 : Int).toNat (0 : Int)] ++ List.drop (↑x_2 :
  Int).toNat (List.take (↑(upOf (List.take x_1 x)).length : Int).toNat (upOf (List.take x_1 x)))) ∧ ((SV.val (A := AA) (Value.slice none (0 : Nat) (0 :
  Nat)) = SV.val (A := AA) (Value.slice none (0 : Nat) (0 : Nat)) ∧ True) ∧ True) ∧ True) ∧ (List.drop (Int.toNat (0 : Int)) (List.take (↑x_2 :
  Int).toNat (upOf (List.take x_1 x)))).length * (8 : Nat) ≤ (140737488355328 : Nat) ∧ (List.drop (Int.toNat (0 : Int)) (List.take (↑x_2 : Int).toNat
  (upOf (List.take x_1 x)))).length ≤ (1152921504606846976 : Nat) ∧ ((List.drop (Int.toNat (0 : Int)) (List.take (↑x_2 : Int).toNat (upOf (List.take x_1
  x)))).length + [x.getD (↑x_1 : Int).toNat (0 : Int)].length) * (8 : Nat) ≤ (140737488355328 : Nat) ∧ (List.drop (Int.toNat (0 : Int)) (List.take (↑x_2
  : Int).toNat (upOf (List.take x_1 x)))).length + [x.getD (↑x_1 : Int).toNat (0 : Int)].length ≤ (1152921504606846976 : Nat) ∧ ((List.drop (Int.toNat (0
  : Int)) (List.take (↑x_2 : Int).toNat (upOf (List.take x_1 x))) ++ [x.getD (↑x_1 : Int).toNat (0 : Int)]).length + (List.drop (↑x_2 : Int).toNat
  (List.take (↑(upOf (List.take x_1 x)).length : Int).toNat (upOf (List.take x_1 x)))).length) * (8 : Nat) ≤ (140737488355328 : Nat) ∧ (List.drop
  (Int.toNat (0 : Int)) (List.take (↑x_2 : Int).toNat (upOf (List.take x_1 x))) ++ [x.getD (↑x_1 : Int).toNat (0 : Int)]).length + (List.drop (↑x_2 :
  Int).toNat (List.take (↑(upOf (List.take x_1 x)).length : Int).toNat (upOf (List.take x_1 x)))).length ≤ (1152921504606846976 : Nat) ∧ inI64 ((↑x_1 :
  Int) + (1 : Int)) ∧ ∃ y, Nat.le y x.length ∧ x.length - y < x.length - x_1 ∧ ((↑y : Int) = (↑x_1 : Int) + (1 : Int) ∧ upOf (List.take y x) = List.drop
  (Int.toNat (0 : Int)) (List.take (↑x_2 : Int).toNat (upOf (List.take x_1 x))) ++ [x.getD (↑x_1 : Int).toNat (0 : Int)] ++ List.drop (↑x_2 : Int).toNat
  (List.take (↑(upOf (List.take x_1 x)).length : Int).toNat (upOf (List.take x_1 x)))) ∧ ((SV.val (A := AA) (Value.slice none (0 : Nat) (0 : Nat)) =
  SV.val (A := AA) (Value.slice none (0 : Nat) (0 : Nat)) ∧ True) ∧ True) ∧ True) ∧ (0 : Int) ≤ (↑x_2 : Int) ∧ (↑x_2 : Int) ≤ (↑(upOf (List.take x_1
  x)).length : Int) ∧ (↑(upOf (List.take x_1 x)).length : Int) ≤ (↑(upOf (List.take x_1 x)).length : Int) ∧ ((List.drop (Int.toNat (0 : Int)) (List.take
  (↑x_2 : Int).toNat (upOf (List.take x_1 x)))).length * (8 : Nat) ≤ (140737488355328 : Nat) ∧ (List.drop (Int.toNat (0 : Int)) (List.take (↑x_2 :
  Int).toNat (upOf (List.take x_1 x)))).length ≤ (1152921504606846976 : Nat) ∧ (↑x_1 : Int).toNat < x.length ∧ ((List.drop (Int.toNat (0 : Int))
  (List.take (↑x_2 : Int).toNat (upOf (List.take x_1 x)))).length + [x.getD (↑x_1 : Int).toNat (0 : Int)].length) * (8 : Nat) ≤ (140737488355328 : Nat) ∧
  (List.drop (Int.toNat (0 : Int)) (List.take (↑x_2 : Int).toNat (upOf (List.take x_1 x)))).length + [x.getD (↑x_1 : Int).toNat (0 : Int)].length ≤
  (1152921504606846976 : Nat) ∧ ((List.drop (Int.toNat (0 : Int)) (List.take (↑x_2 : Int).toNat (upOf (List.take x_1 x))) ++ [x.getD (↑x_1 : Int).toNat
  (0 : Int)]).length + (List.drop (↑x_2 : Int).toNat (List.take (↑(upOf (List.take x_1 x)).length : Int).toNat (upOf (List.take x_1 x)))).length) * (8 :
  Nat) ≤ (140737488355328 : Nat) ∧ (List.drop (Int.toNat (0 : Int)) (List.take (↑x_2 : Int).toNat (upOf (List.take x_1 x))) ++ [x.getD (↑x_1 : Int).toNat
  (0 : Int)]).length + (List.drop (↑x_2 : Int).toNat (List.take (↑(upOf (List.take x_1 x)).length : Int).toNat (upOf (List.take x_1 x)))).length ≤
  (1152921504606846976 : Nat) ∧ inI64 ((↑x_1 : Int) + (1 : Int)) ∧ ∃ y, Nat.le y x.length ∧ x.length - y < x.length - x_1 ∧ ((↑y : Int) = (↑x_1 : Int) +
  (1 : Int) ∧ upOf (List.take y x) = List.drop (Int.toNat (0 : Int)) (List.take (↑x_2 : Int).toNat (upOf (List.take x_1 x))) ++ [x.getD (↑x_1 :
  Int).toNat (0 : Int)] ++ List.drop (↑x_2 : Int).toNat (List.take (↑(upOf (List.take x_1 x)).length : Int).toNat (upOf (List.take x_1 x)))) ∧ ((SV.val
  (A := AA) (Value.slice none (0 : Nat) (0 : Nat)) = SV.val (A := AA) (Value.slice none (0 : Nat) (0 : Nat)) ∧ True) ∧ True) ∧ True) ∧ (↑x_1 : Int).toNat
  < x.length ∧ ((List.drop (Int.toNat (0 : Int)) (List.take (↑x_2 : Int).toNat (upOf (List.take x_1 x)))).length * (8 : Nat) ≤ (140737488355328 : Nat) ∧
  (List.drop (Int.toNat (0 : Int)) (List.take (↑x_2 : Int).toNat (upOf (List.take x_1 x)))).length ≤ (1152921504606846976 : Nat) ∧ ((List.drop (Int.toNat
  (0 : Int)) (List.take (↑x_2 : Int).toNat (upOf (List.take x_1 x)))).length + [x.getD (↑x_1 : Int).toNat (0 : Int)].length) * (8 : Nat) ≤
  (140737488355328 : Nat) ∧ (List.drop (Int.toNat (0 : Int)) (List.take (↑x_2 : Int).toNat (upOf (List.take x_1 x)))).length + [x.getD (↑x_1 : Int).toNat
  (0 : Int)].length ≤ (1152921504606846976 : Nat) ∧ ((List.drop (Int.toNat (0 : Int)) (List.take (↑x_2 : Int).toNat (upOf (List.take x_1 x))) ++ [x.getD
  (↑x_1 : Int).toNat (0 : Int)]).length + (List.drop (↑x_2 : Int).toNat (List.take (↑(upOf (List.take x_1 x)).length : Int).toNat (upOf (List.take x_1
  x)))).length) * (8 : Nat) ≤ (140737488355328 : Nat) ∧ (List.drop (Int.toNat (0 : Int)) (List.take (↑x_2 : Int).toNat (upOf (List.take x_1 x))) ++
  [x.getD (↑x_1 : Int).toNat (0 : Int)]).length + (List.drop (↑x_2 : Int).toNat (List.take (↑(upOf (List.take x_1 x)).length : Int).toNat (upOf
  (List.take x_1 x)))).length ≤ (1152921504606846976 : Nat) ∧ inI64 ((↑x_1 : Int) + (1 : Int)) ∧ ∃ y, Nat.le y x.length ∧ x.length - y < x.length - x_1 ∧
  ((↑y : Int) = (↑x_1 : Int) + (1 : Int) ∧ upOf (List.take y x) = List.drop (Int.toNat (0 : Int)) (List.take (↑x_2 : Int).toNat (upOf (List.take x_1 x)))
  ++ [x.getD (↑x_1 : Int).toNat (0 : Int)] ++ List.drop (↑x_2 : Int).toNat (List.take (↑(upOf (List.take x_1 x)).length : Int).toNat (upOf (List.take x_1
  x)))) ∧ ((SV.val (A := AA) (Value.slice none (0 : Nat) (0 : Nat)) = SV.val (A := AA) (Value.slice none (0 : Nat) (0 : Nat)) ∧ True) ∧ True) ∧ True) ∧
  (List.drop (Int.toNat (0 : Int)) (List.take (↑x_2 : Int).toNat (upOf (List.take x_1 x)))).length * (8 : Nat) ≤ (140737488355328 : Nat) ∧ (List.drop
  (Int.toNat (0 : Int)) (List.take (↑x_2 : Int).toNat (upOf (List.take x_1 x)))).length ≤ (1152921504606846976 : Nat) ∧ ((List.drop (Int.toNat (0 : Int))
  (List.take (↑x_2 : Int).toNat (upOf (List.take x_1 x)))).length + [x.getD (↑x_1 : Int).toNat (0 : Int)].length) * (8 : Nat) ≤ (140737488355328 : Nat) ∧
  (List.drop (Int.toNat (0 : Int)) (List.take (↑x_2 : Int).toNat (upOf (List.take x_1 x)))).length + [x.getD (↑x_1 : Int).toNat (0 : Int)].length ≤
  (1152921504606846976 : Nat) ∧ ((List.drop (Int.toNat (0 : Int)) (List.take (↑x_2 : Int).toNat (upOf (List.take x_1 x))) ++ [x.getD (↑x_1 : Int).toNat
  (0 : Int)]).length + (List.drop (↑x_2 : Int).toNat (List.take (↑(upOf (List.take x_1 x)).length : Int).toNat (upOf (List.take x_1 x)))).length) * (8 :
  Nat) ≤ (140737488355328 : Nat) ∧ (List.drop (Int.toNat (0 : Int)) (List.take (↑x_2 : Int).toNat (upOf (List.take x_1 x))) ++ [x.getD (↑x_1 : Int).toNat
  (0 : Int)]).length + (List.drop (↑x_2 : Int).toNat (List.take (↑(upOf (List.take x_1 x)).length : Int).toNat (upOf (List.take x_1 x)))).length ≤
  (1152921504606846976 : Nat) ∧ inI64 ((↑x_1 : Int) + (1 : Int)) ∧ ∃ y, Nat.le y x.length ∧ x.length - y < x.length - x_1 ∧ ((↑y : Int) = (↑x_1 : Int) +
  (1 : Int) ∧ upOf (List.take y x) = List.drop (Int.toNat (0 : Int)) (List.take (↑x_2 : Int).toNat (upOf (List.take x_1 x))) ++ [x.getD (↑x_1 :
  Int).toNat (0 : Int)] ++ List.drop (↑x_2 : Int).toNat (List.take (↑(upOf (List.take x_1 x)).length : Int).toNat (upOf (List.take x_1 x)))) ∧ ((SV.val
  (A := AA) (Value.slice none (0 : Nat) (0 : Nat)) = SV.val (A := AA) (Value.slice none (0 : Nat) (0 : Nat)) ∧ True) ∧ True) ∧ True) ∧ ((↑x_1 :
  Int).toNat < x.length ∧ ((0 : Int) ≤ (0 : Int) ∧ (0 : Int) ≤ (↑x_2 : Int) ∧ (↑x_2 : Int) ≤ (↑(upOf (List.take x_1 x)).length : Int) ∧ ((List.drop
  (Int.toNat (0 : Int)) (List.take (↑x_2 : Int).toNat (upOf (List.take x_1 x)))).length * (8 : Nat) ≤ (140737488355328 : Nat) ∧ (List.drop (Int.toNat (0
  : Int)) (List.take (↑x_2 : Int).toNat (upOf (List.take x_1 x)))).length ≤ (1152921504606846976 : Nat) ∧ ((((List.drop (Int.toNat (0 : Int)) (List.take
  (↑x_2 : Int).toNat (upOf (List.take x_1 x)))).length + [x.getD (↑x_1 : Int).toNat (0 : Int)].length) * (8 : Nat) ≤ (140737488355328 : Nat) ∧ (List.drop
  (Int.toNat (0 : Int)) (List.take (↑x_2 : Int).toNat (upOf (List.take x_1 x)))).length + [x.getD (↑x_1 : Int).toNat (0 : Int)].length ≤
  (1152921504606846976 : Nat) ∧ (0 : Int) ≤ (↑x_2 : Int) ∧ (↑x_2 : Int) ≤ (↑(upOf (List.take x_1 x)).length : Int) ∧ (↑(upOf (List.take x_1 x)).length :
  Int) ≤ (↑(upOf (List.take x_1 x)).length : Int) ∧ ((List.drop (Int.toNat (0 : Int)) (List.take (↑x_2 : Int).toNat (upOf (List.take x_1 x))) ++ [x.getD
  (↑x_1 : Int).toNat (0 : Int)]).length + (List.drop (↑x_2 : Int).toNat (List.take (↑(upOf (List.take x_1 x)).length : Int).toNat (upOf (List.take x_1
  x)))).length) * (8 : Nat) ≤ (140737488355328 : Nat) ∧ (List.drop (Int.toNat (0 : Int)) (List.take (↑x_2 : Int).toNat (upOf (List.take x_1 x))) ++
  [x.getD (↑x_1 : Int).toNat (0 : Int)]).length + (List.drop (↑x_2 : Int).toNat (List.take (↑(upOf (List.take x_1 x)).length : Int).toNat (upOf
  (List.take x_1 x)))).length ≤ (1152921504606846976 : Nat) ∧ inI64 ((↑x_1 : Int) + (1 : Int)) ∧ ∃ y, Nat.le y x.length ∧ x.length - y < x.length - x_1 ∧
  ((↑y : Int) = (↑x_1 : Int) + (1 : Int) ∧ upOf (List.take y x) = List.drop (Int.toNat (0 : Int)) (List.take (↑x_2 : Int).toNat (upOf (List.take x_1 x)))
  ++ [x.getD (↑x_1 : Int).toNat (0 : Int)] ++ List.drop (↑x_2 : Int).toNat (List.take (↑(upOf (List.take x_1 x)).length : Int).toNat (upOf (List.take x_1
  x)))) ∧ ((SV.val (A := AA) (Value.slice none (0 : Nat) (0 : Nat)) = SV.val (A := AA) (Value.slice none (0 : Nat) (0 : Nat)) ∧ True) ∧ True) ∧ True) ∧
  (0 : Int) ≤ (↑x_2 : Int) ∧ (↑x_2 : Int) ≤ (↑(upOf (List.take x_1 x)).length : Int) ∧ (↑(upOf (List.take x_1 x)).length : Int) ≤ (↑(upOf (List.take x_1
  x)).length : Int) ∧ ((List.drop (Int.toNat (0 : Int)) (List.take (↑x_2 : Int).toNat (upOf (List.take x_1 x)))).length + [x.getD (↑x_1 : Int).toNat (0 :
  Int)].length) * (8 : Nat) ≤ (140737488355328 : Nat) ∧ (List.drop (Int.toNat (0 : Int)) (List.take (↑x_2 : Int).toNat (upOf (List.take x_1 x)))).length
  + [x.getD (↑x_1 : Int).toNat (0 : Int)].length ≤ (1152921504606846976 : Nat) ∧ ((List.drop (Int.toNat (0 : Int)) (List.take (↑x_2 : Int).toNat (upOf
  (List.take x_1 x))) ++ [x.getD (↑x_1 : Int).toNat (0 : Int)]).length + (List.drop (↑x_2 : Int).toNat (List.take (↑(upOf (List.take x_1 x)).length :
  Int).toNat (upOf (List.take x_1 x)))).length) * (8 : Nat) ≤ (140737488355328 : Nat) ∧ (List.drop (Int.toNat (0 : Int)) (List.take (↑x_2 : Int).toNat
  (upOf (List.take x_1 x))) ++ [x.getD (↑x_1 : Int).toNat (0 : Int)]).length + (List.drop (↑x_2 : Int).toNat (List.take (↑(upOf (List.take x_1 x)).length
  : Int).toNat (upOf (List.take x_1 x)))).length ≤ (1152921504606846976 : Nat) ∧ inI64 ((↑x_1 : Int) + (1 : Int)) ∧ ∃ y, Nat.le y x.length ∧ x.length - y
  < x.length - x_1 ∧ ((↑y : Int) = (↑x_1 : Int) + (1 : Int) ∧ upOf (List.take y x) = List.drop (Int.toNat (0 : Int)) (List.take (↑x_2 : Int).toNat (upOf
  (List.take x_1 x))) ++ [x.getD (↑x_1 : Int).toNat (0 : Int)] ++ List.drop (↑x_2 : Int).toNat (List.take (↑(upOf (List.take x_1 x)).length : Int).toNat
  (upOf (List.take x_1 x)))) ∧ ((SV.val (A := AA) (Value.slice none (0 : Nat) (0 : Nat)) = SV.val (A := AA) (Value.slice none (0 : Nat) (0 : Nat)) ∧
  True) ∧ True) ∧ True) ∧ (0 : Int) ≤ (↑x_2 : Int) ∧ (↑x_2 : Int) ≤ (↑(upOf (List.take x_1 x)).length : Int) ∧ (↑(upOf (List.take x_1 x)).length : Int) ≤
  (↑(upOf (List.take x_1 x)).length : Int) ∧ ((List.drop (Int.toNat (0 : Int)) (List.take (↑x_2 : Int).toNat (upOf (List.take x_1 x)))).length + [x.getD
  (↑x_1 : Int).toNat (0 : Int)].length) * (8 : Nat) ≤ (140737488355328 : Nat) ∧ (List.drop (Int.toNat (0 : Int)) (List.take (↑x_2 : Int).toNat (upOf
  (List.take x_1 x)))).length + [x.getD (↑x_1 : Int).toNat (0 : Int)].length ≤ (1152921504606846976 : Nat) ∧ ((List.drop (Int.toNat (0 : Int)) (List.take
  (↑x_2 : Int).toNat (upOf (List.take x_1 x))) ++ [x.getD (↑x_1 : Int).toNat (0 : Int)]).length + (List.drop (↑x_2 : Int).toNat (List.take (↑(upOf
  (List.take x_1 x)).length : Int).toNat (upOf (List.take x_1 x)))).length) * (8 : Nat) ≤ (140737488355328 : Nat) ∧ (List.drop (Int.toNat (0 : Int))
  (List.take (↑x_2 : Int).toNat (upOf (List.take x_1 x))) ++ [x.getD (↑x_1 : Int).toNat (0 : Int)]).length + (List.drop (↑x_2 : Int).toNat (List.take
  (↑(upOf (List.take x_1 x)).length : Int).toNat (upOf (List.take x_1 x)))).length ≤ (1152921504606846976 : Nat) ∧ inI64 ((↑x_1 : Int) + (1 : Int)) ∧ ∃
  y, Nat.le y x.length ∧ x.length - y < x.length - x_1 ∧ ((↑y : Int) = (↑x_1 : Int) + (1 : Int) ∧ upOf (List.take y x) = List.drop (Int.toNat (0 : Int))
  (List.take (↑x_2 : Int).toNat (upOf (List.take x_1 x))) ++ [x.getD (↑x_1 : Int).toNat (0 : Int)] ++ List.drop (↑x_2 : Int).toNat (List.take (↑(upOf
  (List.take x_1 x)).length : Int).toNat (upOf (List.take x_1 x)))) ∧ ((SV.val (A := AA) (Value.slice none (0 : Nat) (0 : Nat)) = SV.val (A := AA)
  (Value.slice none (0 : Nat) (0 : Nat)) ∧ True) ∧ True) ∧ True) ∧ (((List.drop (Int.toNat (0 : Int)) (List.take (↑x_2 : Int).toNat (upOf (List.take x_1
  x)))).length * (8 : Nat) ≤ (140737488355328 : Nat) ∧ (List.drop (Int.toNat (0 : Int)) (List.take (↑x_2 : Int).toNat (upOf (List.take x_1 x)))).length ≤
  (1152921504606846976 : Nat) ∧ (((List.drop (Int.toNat (0 : Int)) (List.take (↑x_2 : Int).toNat (upOf (List.take x_1 x)))).length + [x.getD (↑x_1 :
  Int).toNat (0 : Int)].length) * (8 : Nat) ≤ (140737488355328 : Nat) ∧ (List.drop (Int.toNat (0 : Int)) (List.take (↑x_2 : Int).toNat (upOf (List.take
  x_1 x)))).length + [x.getD (↑x_1 : Int).toNat (0 : Int)].length ≤ (1152921504606846976 : Nat) ∧ (0 : Int) ≤ (↑x_2 : Int) ∧ (↑x_2 : Int) ≤ (↑(upOf
  (List.take x_1 x)).length : Int) ∧ (↑(upOf (List.take x_1 x)).length : Int) ≤ (↑(upOf (List.take x_1 x)).length : Int) ∧ ((List.drop (Int.toNat (0 :
  Int)) (List.take (↑x_2 : Int).toNat (upOf (List.take x_1 x))) ++ [x.getD (↑x_1 : Int).toNat (0 : Int)]).length + (List.drop (↑x_2 : Int).toNat
  (List.take (↑(upOf (List.take x_1 x)).length : Int).toNat (upOf (List.take x_1 x)))).length) * (8 : Nat) ≤ (140737488355328 : Nat) ∧ (List.drop
  (Int.toNat (0 : Int)) (List.take (↑x_2 : Int).toNat (upOf (List.take x_1 x))) ++ [x.getD (↑x_1 : Int).toNat (0 : Int)]).length + (List.drop (↑x_2 :
  Int).toNat (List.take (↑(upOf (List.take x_1 x)).length : Int).toNat (upOf (List.take x_1 x)))).length ≤ (1152921504606846976 : Nat) ∧ inI64 ((↑x_1 :
  Int) + (1 : Int)) ∧ ∃ y, Nat.le y x.length ∧ x.length - y < x.length - x_1 ∧ ((↑y : Int) = (↑x_1 : Int) + (1 : Int) ∧ upOf (List.take y x) = List.drop
  (Int.toNat (0 : Int)) (List.take (↑x_2 : Int).toNat (upOf (List.take x_1 x))) ++ [x.getD (↑x_1 : Int).toNat (0 : Int)] ++ List.drop (↑x_2 : Int).toNat
  (List.take (↑(upOf (List.take x_1 x)).length : Int).toNat (upOf (List.take x_1 x)))) ∧ ((SV.val (A := AA) (Value.slice none (0 : Nat) (0 : Nat)) =
  SV.val (A := AA) (Value.slice none (0 : Nat) (0 : Nat)) ∧ True) ∧ True) ∧ True) ∧ (0 : Int) ≤ (↑x_2 : Int) ∧ (↑x_2 : Int) ≤ (↑(upOf (List.take x_1
  x)).length : Int) ∧ (↑(upOf (List.take x_1 x)).length : Int) ≤ (↑(upOf (List.take x_1 x)).length : Int) ∧ ((List.drop (Int.toNat (0 : Int)) (List.take
  (↑x_2 : Int).toNat (upOf (List.take x_1 x)))).length + [x.getD (↑x_1 : Int).toNat (0 : Int)].length) * (8 : Nat) ≤ (140737488355328 : Nat) ∧ (List.drop
  (Int.toNat (0 : Int)) (List.take (↑x_2 : Int).toNat (upOf (List.take x_1 x)))).length + [x.getD (↑x_1 : Int).toNat (0 : Int)].length ≤
  (1152921504606846976 : Nat) ∧ ((List.drop (Int.toNat (0 : Int)) (List.take (↑x_2 : Int).toNat (upOf (List.take x_1 x))) ++ [x.getD (↑x_1 : Int).toNat
  (0 : Int)]).length + (List.drop (↑x_2 : Int).toNat (List.take (↑(upOf (List.take x_1 x)).length : Int).toNat (upOf (List.take x_1 x)))).length) * (8 :
  Nat) ≤ (140737488355328 : Nat) ∧ (List.drop (Int.toNat (0 : Int)) (List.take (↑x_2 : Int).toNat (upOf (List.take x_1 x))) ++ [x.getD (↑x_1 : Int).toNat
  (0 : Int)]).length + (List.drop (↑x_2 : Int).toNat (List.take (↑(upOf (List.take x_1 x)).length : Int).toNat (upOf (List.take x_1 x)))).length ≤
  (1152921504606846976 : Nat) ∧ inI64 ((↑x_1 : Int) + (1 : Int)) ∧ ∃ y, Nat.le y x.length ∧ x.length - y < x.length - x_1 ∧ ((↑y : Int) = (↑x_1 : Int) +
  (1 : Int) ∧ upOf (List.take y x) = List.drop (Int.toNat (0 : Int)) (List.take (↑x_2 : Int).toNat (upOf (List.take x_1 x))) ++ [x.getD (↑x_1 :
  Int).toNat (0 : Int)] ++ List.drop (↑x_2 : Int).toNat (List.take (↑(upOf (List.take x_1 x)).length : Int).toNat (upOf (List.take x_1 x)))) ∧ ((SV.val
  (A := AA) (Value.slice none (0 : Nat) (0 : Nat)) = SV.val (A := AA) (Value.slice none (0 : Nat) (0 : Nat)) ∧ True) ∧ True) ∧ True) ∧ (0 : Int) ≤ (↑x_2
  : Int) ∧ (↑x_2 : Int) ≤ (↑(upOf (List.take x_1 x)).length : Int) ∧ (↑(upOf (List.take x_1 x)).length : Int) ≤ (↑(upOf (List.take x_1 x)).length : Int)
  ∧ (List.drop (Int.toNat (0 : Int)) (List.take (↑x_2 : Int).toNat (upOf (List.take x_1 x)))).length * (8 : Nat) ≤ (140737488355328 : Nat) ∧ (List.drop
  (Int.toNat (0 : Int)) (List.take (↑x_2 : Int).toNat (upOf (List.take x_1 x)))).length ≤ (1152921504606846976 : Nat) ∧ ((List.drop (Int.toNat (0 : Int))
  (List.take (↑x_2 : Int).toNat (upOf (List.take x_1 x)))).length + [x.getD (↑x_1 : Int).toNat (0 : Int)].length) * (8 : Nat) ≤ (140737488355328 : Nat) ∧
  (List.drop (Int.toNat (0 : Int)) (List.take (↑x_2 : Int).toNat (upOf (List.take x_1 x)))).length + [x.getD (↑x_1 : Int).toNat (0 : Int)].length ≤
  (1152921504606846976 : Nat) ∧ ((List.drop (Int.toNat (0 : Int)) (List.take (↑x_2 : Int).toNat (upOf (List.take x_1 x))) ++ [x.getD (↑x_1 : Int).toNat
  (0 : Int)]).length + (List.drop (↑x_2 : Int).toNat (List.take (↑(upOf (List.take x_1 x)).length : Int).toNat (upOf (List.take x_1 x)))).length) * (8 :
  Nat) ≤ (140737488355328 : Nat) ∧ (List.drop (Int.toNat (0 : Int)) (List.take (↑x_2 : Int).toNat (upOf (List.take x_1 x))) ++ [x.getD (↑x_1 : Int).toNat
  (0 : Int)]).length + (List.drop (↑x_2 : Int).toNat (List.take (↑(upOf (List.take x_1 x)).length : Int).toNat (upOf (List.take x_1 x)))).length ≤
  (1152921504606846976 : Nat) ∧ inI64 ((↑x_1 : Int) + (1 : Int)) ∧ ∃ y, Nat.le y x.length ∧ x.length - y < x.length - x_1 ∧ ((↑y : Int) = (↑x_1 : Int) +
  (1 : Int) ∧ upOf (List.take y x) = List.drop (Int.toNat (0 : Int)) (List.take (↑x_2 : Int).toNat (upOf (List.take x_1 x))) ++ [x.getD (↑x_1 :
  Int).toNat (0 : Int)] ++ List.drop (↑x_2 : Int).toNat (List.take (↑(upOf (List.take x_1 x)).length : Int).toNat (upOf (List.take x_1 x)))) ∧ ((SV.val
  (A := AA) (Value.slice none (0 : Nat) (0 : Nat)) = SV.val (A := AA) (Value.slice none (0 : Nat) (0 : Nat)) ∧ True) ∧ True) ∧ True) ∧ (0 : Int) ≤ (↑x_2
  : Int) ∧ (↑x_2 : Int) ≤ (↑(upOf (List.take x_1 x)).length : Int) ∧ (↑(upOf (List.take x_1 x)).length : Int) ≤ (↑(upOf (List.take x_1 x)).length : Int)
  ∧ ((List.drop (Int.toNat (0 : Int)) (List.take (↑x_2 : Int).toNat (upOf (List.take x_1 x)))).length * (8 : Nat) ≤ (140737488355328 : Nat) ∧ (List.drop
  (Int.toNat (0 : Int)) (List.take (↑x_2 : Int).toNat (upOf (List.take x_1 x)))).length ≤ (1152921504606846976 : Nat) ∧ ((List.drop (Int.toNat (0 : Int))
  (List.take (↑x_2 : Int).toNat (upOf (List.take x_1 x)))).length + [x.getD (↑x_1 : Int).toNat (0 : Int)].length) * (8 : Nat) ≤ (140737488355328 : Nat) ∧
  (List.drop (Int.toNat (0 : Int)) (List.take (↑x_2 : Int).toNat (upOf (List.take x_1 x)))).length + [x.getD (↑x_1 : Int).toNat (0 : Int)].length ≤
  (1152921504606846976 : Nat) ∧ ((List.drop (Int.toNat (0 : Int)) (List.take (↑x_2 : Int).toNat (upOf (List.take x_1 x))) ++ [x.getD (↑x_1 : Int).toNat
  (0 : Int)]).length + (List.drop (↑x_2 : Int).toNat (List.take (↑(upOf (List.take x_1 x)).length : Int).toNat (upOf (List.take x_1 x)))).length) * (8 :
  Nat) ≤ (140737488355328 : Nat) ∧ (List.drop (Int.toNat (0 : Int)) (List.take (↑x_2 : Int).toNat (upOf (List.take x_1 x))) ++ [x.getD (↑x_1 : Int).toNat
  (0 : Int)]).length + (List.drop (↑x_2 : Int).toNat (List.take (↑(upOf (List.take x_1 x)).length : Int).toNat (upOf (List.take x_1 x)))).length ≤
  (1152921504606846976 : Nat) ∧ inI64 ((↑x_1 : Int) + (1 : Int)) ∧ ∃ y, Nat.le y x.length ∧ x.length - y < x.length - x_1 ∧ ((↑y : Int) = (↑x_1 : Int) +
  (1 : Int) ∧ upOf (List.take y x) = List.drop (Int.toNat (0 : Int)) (List.take (↑x_2 : Int).toNat (upOf (List.take x_1 x))) ++ [x.getD (↑x_1 :
  Int).toNat (0 : Int)] ++ List.drop (↑x_2 : Int).toNat (List.take (↑(upOf (List.take x_1 x)).length : Int).toNat (upOf (List.take x_1 x)))) ∧ ((SV.val
  (A := AA) (Value.slice none (0 : Nat) (0 : Nat)) = SV.val (A := AA) (Value.slice none (0 : Nat) (0 : Nat)) ∧ True) ∧ True) ∧ True) ∧ (List.drop
  (Int.toNat (0 : Int)) (List.take (↑x_2 : Int).toNat (upOf (List.take x_1 x)))).length * (8 : Nat) ≤ (140737488355328 : Nat) ∧ (List.drop (Int.toNat (0
  : Int)) (List.take (↑x_2 : Int).toNat (upOf (List.take x_1 x)))).length ≤ (1152921504606846976 : Nat) ∧ ((List.drop (Int.toNat (0 : Int)) (List.take
  (↑x_2 : Int).toNat (upOf (List.take x_1 x)))).length + [x.getD (↑x_1 : Int).toNat (0 : Int)].length) * (8 : Nat) ≤ (140737488355328 : Nat) ∧ (List.drop
  (Int.toNat (0 : Int)) (List.take (↑x_2 : Int).toNat (upOf (List.take x_1 x)))).length + [x.getD (↑x_1 : Int).toNat (0 : Int)].length ≤
  (1152921504606846976 : Nat) ∧ ((List.drop (Int.toNat (0 : Int)) (List.take (↑x_2 : Int).toNat (upOf (List.take x_1 x))) ++ [x.getD (↑x_1 : Int).toNat
  (0 : Int)]).length + (List.drop (↑x_2 : Int).toNat (List.take (↑(upOf (List.take x_1 x)).length : Int).toNat (upOf (List.take x_1 x)))).length) * (8 :
  Nat) ≤ (140737488355328 : Nat) ∧ (List.drop (Int.toNat (0 : Int)) (List.take (↑x_2 : Int).toNat (upOf (List.take x_1 x))) ++ [x.getD (↑x_1 : Int).toNat
  (0 : Int)]).length + (List.drop (↑x_2 : Int).toNat (List.take (↑(upOf (List.take x_1 x)).length : Int).toNat (upOf (List.take x_1 x)))).length ≤
  (1152921504606846976 : Nat) ∧ inI64 ((↑x_1 : Int) + (1 : Int)) ∧ ∃ y, Nat.le y x.length ∧ x.length - y < x.length - x_1 ∧ ((↑y : Int) = (↑x_1 : Int) +
  (1 : Int) ∧ upOf (List.take y x) = List.drop (Int.toNat (0 : Int)) (List.take (↑x_2 : Int).toNat (upOf (List.take x_1 x))) ++ [x.getD (↑x_1 :
  Int).toNat (0 : Int)] ++ List.drop (↑x_2 : Int).toNat (List.take (↑(upOf (List.take x_1 x)).length : Int).toNat (upOf (List.take x_1 x)))) ∧ ((SV.val
  (A := AA) (Value.slice none (0 : Nat) (0 : Nat)) = SV.val (A := AA) (Value.slice none (0 : Nat) (0 : Nat)) ∧ True) ∧ True) ∧ True) ∧ (((0 : Int) ≤ (0 :
  Int) ∧ (0 : Int) ≤ (↑x_2 : Int) ∧ (↑x_2 : Int) ≤ (↑(upOf (List.take x_1 x)).length : Int) ∧ ((List.drop (Int.toNat (0 : Int)) (List.take (↑x_2 :
  Int).toNat (upOf (List.take x_1 x)))).length * (8 : Nat) ≤ (140737488355328 : Nat) ∧ (List.drop (Int.toNat (0 : Int)) (List.take (↑x_2 : Int).toNat
  (upOf (List.take x_1 x)))).length ≤ (1152921504606846976 : Nat) ∧ (((List.drop (Int.toNat (0 : Int)) (List.take (↑x_2 : Int).toNat (upOf (List.take x_1
  x)))).length + [x.getD (↑x_1 : Int).toNat (0 : Int)].length) * (8 : Nat) ≤ (140737488355328 : Nat) ∧ (List.drop (Int.toNat (0 : Int)) (List.take (↑x_2
  : Int).toNat (upOf (List.take x_1 x)))).length + [x.getD (↑x_1 : Int).toNat (0 : Int)].length ≤ (1152921504606846976 : Nat) ∧ (0 : Int) ≤ (↑x_2 : Int)
  ∧ (↑x_2 : Int) ≤ (↑(upOf (List.take x_1 x)).length : Int) ∧ (↑(upOf (List.take x_1 x)).length : Int) ≤ (↑(upOf (List.take x_1 x)).length : Int) ∧
  ((List.drop (Int.toNat (0 : Int)) (List.take (↑x_2 : Int).toNat (upOf (List.take x_1 x))) ++ [x.getD (↑x_1 : Int).toNat (0 : Int)]).length + (List.drop
  (↑x_2 : Int).toNat (List.take (↑(upOf (List.take x_1 x)).length : Int).toNat (upOf (List.take x_1 x)))).length) * (8 : Nat) ≤ (140737488355328 : Nat) ∧
  (List.drop (Int.toNat (0 : Int)) (List.take (↑x_2 : Int).toNat (upOf (List.take x_1 x))) ++ [x.getD (↑x_1 : Int).toNat (0 : Int)]).length + (List.drop
  (↑x_2 : Int).toNat (List.take (↑(upOf (List.take x_1 x)).length : Int).toNat (upOf (List.take x_1 x)))).length ≤ (1152921504606846976 : Nat) ∧ inI64
  ((↑x_1 : Int) + (1 : Int)) ∧ ∃ y, Nat.le y x.length ∧ x.length - y < x.length - x_1 ∧ ((↑y : Int) = (↑x_1 : Int) + (1 : Int) ∧ upOf (List.take y x) =
  List.drop (Int.toNat (0 : Int)) (List.take (↑x_2 : Int).toNat (upOf (List.take x_1 x))) ++ [x.getD (↑x_1 : Int).toNat (0 : Int)] ++ List.drop (↑x_2 :
  Int).toNat (List.take (↑(upOf (List.take x_1 x)).length : Int).toNat (upOf (List.take x_1 x)))) ∧ ((SV.val (A := AA) (Value.slice none (0 : Nat) (0 :
  Nat)) = SV.val (A := AA) (Value.slice none (0 : Nat) (0 : Nat)) ∧ True) ∧ True) ∧ True) ∧ (0 : Int) ≤ (↑x_2 : Int) ∧ (↑x_2 : Int) ≤ (↑(upOf (List.take
  x_1 x)).length : Int) ∧ (↑(upOf (List.take x_1 x)).length : Int) ≤ (↑(upOf (List.take x_1 x)).length : Int) ∧ ((List.drop (Int.toNat (0 : Int))
  (List.take (↑x_2 : Int).toNat (upOf (List.take x_1 x)))).length + [x.getD (↑x_1 : Int).toNat (0 : Int)].length) * (8 : Nat) ≤ (140737488355328 : Nat) ∧
  (List.drop (Int.toNat (0 : Int)) (List.take (↑x_2 : Int).toNat (upOf (List.take x_1 x)))).length + [x.getD (↑x_1 : Int).toNat (0 : Int)].length ≤
  (1152921504606846976 : Nat) ∧ ((List.drop (Int.toNat (0 : Int)) (List.take (↑x_2 : Int).toNat (upOf (List.take x_1 x))) ++ [x.getD (↑x_1 : Int).toNat
  (0 : Int)]).length + (List.drop (↑x_2 : Int).toNat (List.take (↑(upOf (List.take x_1 x)).length : Int).toNat (upOf (List.take x_1 x)))).length) * (8 :
  Nat) ≤ (140737488355328 : Nat) ∧ (List.drop (Int.toNat (0 : Int)) (List.take (↑x_2 : Int).toNat (upOf (List.take x_1 x))) ++ [x.getD (↑x_1 : Int).toNat
  (0 : Int)]).length + (List.drop (↑x_2 : Int).toNat (List.take (↑(upOf (List.take x_1 x)).length : Int).toNat (upOf (List.take x_1 x)))).length ≤
  (1152921504606846976 : Nat) ∧ inI64 ((↑x_1 : Int) + (1 : Int)) ∧ ∃ y, Nat.le y x.length ∧ x.length - y < x.length - x_1 ∧ ((↑y : Int) = (↑x_1 : Int) +
  (1 : Int) ∧ upOf (List.take y x) = List.drop (Int.toNat (0 : Int)) (List.take (↑x_2 : Int).toNat (upOf (List.take x_1 x))) ++ [x.getD (↑x_1 :
  Int).toNat (0 : Int)] ++ List.drop (↑x_2 : Int).toNat (List.take (↑(upOf (List.take x_1 x)).length : Int).toNat (upOf (List.take x_1 x)))) ∧ ((SV.val
  (A := AA) (Value.slice none (0 : Nat) (0 : Nat)) = SV.val (A := AA) (Value.slice none (0 : Nat) (0 : Nat)) ∧ True) ∧ True) ∧ True) ∧ (0 : Int) ≤ (↑x_2
  : Int) ∧ (↑x_2 : Int) ≤ (↑(upOf (List.take x_1 x)).length : Int) ∧ (↑(upOf (List.take x_1 x)).length : Int) ≤ (↑(upOf (List.take x_1 x)).length : Int)
  ∧ (List.drop (Int.toNat (0 : Int)) (List.take (↑x_2 : Int).toNat (upOf (List.take x_1 x)))).length * (8 : Nat) ≤ (140737488355328 : Nat) ∧ (List.drop
  (Int.toNat (0 : Int)) (List.take (↑x_2 : Int).toNat (upOf (List.take x_1 x)))).length ≤ (1152921504606846976 : Nat) ∧ ((List.drop (Int.toNat (0 : Int))
  (List.take (↑x_2 : Int).toNat (upOf (List.take x_1 x)))).length + [x.getD (↑x_1 : Int).toNat (0 : Int)].length) * (8 : Nat) ≤ (140737488355328 : Nat) ∧
  (List.drop (Int.toNat (0 : Int)) (List.take (↑x_2 : Int).toNat (upOf (List.take x_1 x)))).length + [x.getD (↑x_1 : Int).toNat (0 : Int)].length ≤
  (1152921504606846976 : Nat) ∧ ((List.drop (Int.toNat (0 : Int)) (List.take (↑x_2 : Int).toNat (upOf (List.take x_1 x))) ++ [x.getD (↑x_1 : Int).toNat
  (0 : Int)]).length + (List.drop (↑x_2 : Int).toNat (List.take (↑(upOf (List.take x_1 x)).length : Int).toNat (upOf (List.take x_1 x)))).length) * (8 :
  Nat) ≤ (140737488355328 : Nat) ∧ (List.drop (Int.toNat (0 : Int)) (List.take (↑x_2 : Int).toNat (upOf (List.take x_1 x))) ++ [x.getD (↑x_1 : Int).toNat
  (0 : Int)]).length + (List.drop (↑x_2 : Int).toNat (List.take (↑(upOf (List.take x_1 x)).length : Int).toNat (upOf (List.take x_1 x)))).length ≤
  (1152921504606846976 : Nat) ∧ inI64 ((↑x_1 : Int) + (1 : Int)) ∧ ∃ y, Nat.le y x.length ∧ x.length - y < x.length - x_1 ∧ ((↑y : Int) = (↑x_1 : Int) +
  (1 : Int) ∧ upOf (List.take y x) = List.drop (Int.toNat (0 : Int)) (List.take (↑x_2 : Int).toNat (upOf (List.take x_1 x))) ++ [x.getD (↑x_1 :
  Int).toNat (0 : Int)] ++ List.drop (↑x_2 : Int).toNat (List.take (↑(upOf (List.take x_1 x)).length : Int).toNat (upOf (List.take x_1 x)))) ∧ ((SV.val
  (A := AA) (Value.slice none (0 : Nat) (0 : Nat)) = SV.val (A := AA) (Value.slice none (0 : Nat) (0 : Nat)) ∧ True) ∧ True) ∧ True) ∧ (0 : Int) ≤ (↑x_2
  : Int) ∧ (↑x_2 : Int) ≤ (↑(upOf (List.take x_1 x)).length : Int) ∧ (↑(upOf (List.take x_1 x)).length : Int) ≤ (↑(upOf (List.take x_1 x)).length : Int)
  ∧ (0 : Int) ≤ (0 : Int) ∧ (0 : Int) ≤ (↑x_2 : Int) ∧ (↑x_2 : Int) ≤ (↑(upOf (List.take x_1 x)).length : Int) ∧ (List.drop (Int.toNat (0 : Int))
  (List.take (↑x_2 : Int).toNat (upOf (List.take x_1 x)))).length * (8 : Nat) ≤ (140737488355328 : Nat) ∧ (List.drop (Int.toNat (0 : Int)) (List.take
  (↑x_2 : Int).toNat (upOf (List.take x_1 x)))).length ≤ (1152921504606846976 : Nat) ∧ ((List.drop (Int.toNat (0 : Int)) (List.take (↑x_2 : Int).toNat
  (upOf (List.take x_1 x)))).length + [x.getD (↑x_1 : Int).toNat (0 : Int)].length) * (8 : Nat) ≤ (140737488355328 : Nat) ∧ (List.drop (Int.toNat (0 :
  Int)) (List.take (↑x_2 : Int).toNat (upOf (List.take x_1 x)))).length + [x.getD (↑x_1 : Int).toNat (0 : Int)].length ≤ (1152921504606846976 : Nat) ∧
  ((List.drop (Int.toNat (0 : Int)) (List.take (↑x_2 : Int).toNat (upOf (List.take x_1 x))) ++ [x.getD (↑x_1 : Int).toNat (0 : Int)]).length + (List.drop
  (↑x_2 : Int).toNat (List.take (↑(upOf (List.take x_1 x)).length : Int).toNat (upOf (List.take x_1 x)))).length) * (8 : Nat) ≤ (140737488355328 : Nat) ∧
  (List.drop (Int.toNat (0 : Int)) (List.take (↑x_2 : Int).toNat (upOf (List.take x_1 x))) ++ [x.getD (↑x_1 : Int).toNat (0 : Int)]).length + (List.drop
  (↑x_2 : Int).toNat (List.take (↑(upOf (List.take x_1 x)).length : Int).toNat (upOf (List.take x_1 x)))).length ≤ (1152921504606846976 : Nat) ∧ inI64
  ((↑x_1 : Int) + (1 : Int)) ∧ ∃ y, Nat.le y x.length ∧ x.length - y < x.length - x_1 ∧ ((↑y : Int) = (↑x_1 : Int) + (1 : Int) ∧ upOf (List.take y x) =
  List.drop (Int.toNat (0 : Int)) (List.take (↑x_2 : Int).toNat (upOf (List.take x_1 x))) ++ [x.getD (↑x_1 : Int).toNat (0 : Int)] ++ List.drop (↑x_2 :
  Int).toNat (List.take (↑(upOf (List.take x_1 x)).length : Int).toNat (upOf (List.take x_1 x)))) ∧ ((SV.val (A := AA) (Value.slice none (0 : Nat) (0 :
  Nat)) = SV.val (A := AA) (Value.slice none (0 : Nat) (0 : Nat)) ∧ True) ∧ True) ∧ True) ∧ (0 : Int) ≤ (↑x_2 : Int) ∧ (↑x_2 : Int) ≤ (↑(upOf (List.take
  x_1 x)).length : Int) ∧ (↑(upOf (List.take x_1 x)).length : Int) ≤ (↑(upOf (List.take x_1 x)).length : Int) ∧ ((0 : Int) ≤ (0 : Int) ∧ (0 : Int) ≤
  (↑x_2 : Int) ∧ (↑x_2 : Int) ≤ (↑(upOf (List.take x_1 x)).length : Int) ∧ ((List.drop (Int.toNat (0 : Int)) (List.take (↑x_2 : Int).toNat (upOf
  (List.take x_1 x)))).length * (8 : Nat) ≤ (140737488355328 : Nat) ∧ (List.drop (Int.toNat (0 : Int)) (List.take (↑x_2 : Int).toNat (upOf (List.take x_1
  x)))).length ≤ (1152921504606846976 : Nat) ∧ ((List.drop (Int.toNat (0 : Int)) (List.take (↑x_2 : Int).toNat (upOf (List.take x_1 x)))).length +
  [x.getD (↑x_1 : Int).toNat (0 : Int)].length) * (8 : Nat) ≤ (140737488355328 : Nat) ∧ (List.drop (Int.toNat (0 : Int)) (List.take (↑x_2 : Int).toNat
  (upOf (List.take x_1 x)))).length + [x.getD (↑x_1 : Int).toNat (0 : Int)].length ≤ (1152921504606846976 : Nat) ∧ ((List.drop (Int.toNat (0 : Int))
  (List.take (↑x_2 : Int).toNat (upOf (List.take x_1 x))) ++ [x.getD (↑x_1 : Int).toNat (0 : Int)]).length + (List.drop (↑x_2 : Int).toNat (List.take
  (↑(upOf (List.take x_1 x)).length : Int).toNat (upOf (List.take x_1 x)))).length) * (8 : Nat) ≤ (140737488355328 : Nat) ∧ (List.drop (Int.toNat (0 :
  Int)) (List.take (↑x_2 : Int).toNat (upOf (List.take x_1 x))) ++ [x.getD (↑x_1 : Int).toNat (0 : Int)]).length + (List.drop (↑x_2 : Int).toNat
  (List.take (↑(upOf (List.take x_1 x)).length : Int).toNat (upOf (List.take x_1 x)))).length ≤ (1152921504606846976 : Nat) ∧ inI64 ((↑x_1 : Int) + (1 :
  Int)) ∧ ∃ y, Nat.le y x.length ∧ x.length - y < x.length - x_1 ∧ ((↑y : Int) = (↑x_1 : Int) + (1 : Int) ∧ upOf (List.take y x) = List.drop (Int.toNat
  (0 : Int)) (List.take (↑x_2 : Int).toNat (upOf (List.take x_1 x))) ++ [x.getD (↑x_1 : Int).toNat (0 : Int)] ++ List.drop (↑x_2 : Int).toNat (List.take
  (↑(upOf (List.take x_1 x)).length : Int).toNat (upOf (List.take x_1 x)))) ∧ ((SV.val (A := AA) (Value.slice none (0 : Nat) (0 : Nat)) = SV.val (A :=
  AA) (Value.slice none (0 : Nat) (0 : Nat)) ∧ True) ∧ True) ∧ True) ∧ (List.drop (Int.toNat (0 : Int)) (List.take (↑x_2 : Int).toNat (upOf (List.take
  x_1 x)))).length * (8 : Nat) ≤ (140737488355328 : Nat) ∧ (List.drop (Int.toNat (0 : Int)) (List.take (↑x_2 : Int).toNat (upOf (List.take x_1
  x)))).length ≤ (1152921504606846976 : Nat) ∧ ((List.drop (Int.toNat (0 : Int)) (List.take (↑x_2 : Int).toNat (upOf (List.take x_1 x)))).length +
  [x.getD (↑x_1 : Int).toNat (0 : Int)].length) * (8 : Nat) ≤ (140737488355328 : Nat) ∧ (List.drop (Int.toNat (0 : Int)) (List.take (↑x_2 : Int).toNat
  (upOf (List.take x_1 x)))).length + [x.getD (↑x_1 : Int).toNat (0 : Int)].length ≤ (1152921504606846976 : Nat) ∧ ((List.drop (Int.toNat (0 : Int))
  (List.take (↑x_2 : Int).toNat (upOf (List.take x_1 x))) ++ [x.getD (↑x_1 : Int).toNat (0 : Int)]).length + (List.drop (↑x_2 : Int).toNat (List.take
  (↑(upOf (List.take x_1 x)).length : Int).toNat (upOf (List.take x_1 x)))).length) * (8 : Nat) ≤ (140737488355328 : Nat) ∧ (List.drop (Int.toNat (0 :
  Int)) (List.take (↑x_2 : Int).toNat (upOf (List.take x_1 x))) ++ [x.getD (↑x_1 : Int).toNat (0 : Int)]).length + (List.drop (↑x_2 : Int).toNat
  (List.take (↑(upOf (List.take x_1 x)).length : Int).toNat (upOf (List.take x_1 x)))).length ≤ (1152921504606846976 : Nat) ∧ inI64 ((↑x_1 : Int) + (1 :
  Int)) ∧ ∃ y, Nat.le y x.length ∧ x.length - y < x.length - x_1 ∧ ((↑y : Int) = (↑x_1 : Int) + (1 : Int) ∧ upOf (List.take y x) = List.drop (Int.toNat
  (0 : Int)) (List.take (↑x_2 : Int).toNat (upOf (List.take x_1 x))) ++ [x.getD (↑x_1 : Int).toNat (0 : Int)] ++ List.drop (↑x_2 : Int).toNat (List.take
  (↑(upOf (List.take x_1 x)).length : Int).toNat (upOf (List.take x_1 x)))) ∧ ((SV.val (A := AA) (Value.slice none (0 : Nat) (0 : Nat)) = SV.val (A :=
  AA) (Value.slice none (0 : Nat) (0 : Nat)) ∧ True) ∧ True) ∧ True) ∧ (0 : Int) ≤ (0 : Int) ∧ (0 : Int) ≤ (↑x_2 : Int) ∧ (↑x_2 : Int) ≤ (↑(upOf
  (List.take x_1 x)).length : Int) ∧ (List.drop (Int.toNat (0 : Int)) (List.take (↑x_2 : Int).toNat (upOf (List.take x_1 x)))).length * (8 : Nat) ≤
  (140737488355328 : Nat) ∧ (List.drop (Int.toNat (0 : Int)) (List.take (↑x_2 : Int).toNat (upOf (List.take x_1 x)))).length ≤ (1152921504606846976 :
  Nat) ∧ ((List.drop (Int.toNat (0 : Int)) (List.take (↑x_2 : Int).toNat (upOf (List.take x_1 x)))).length + [x.getD (↑x_1 : Int).toNat (0 :
  Int)].length) * (8 : Nat) ≤ (140737488355328 : Nat) ∧ (List.drop (Int.toNat (0 : Int)) (List.take (↑x_2 : Int).toNat (upOf (List.take x_1 x)))).length
  + [x.getD (↑x_1 : Int).toNat (0 : Int)].length ≤ (1152921504606846976 : Nat) ∧ ((List.drop (Int.toNat (0 : Int)) (List.take (↑x_2 : Int).toNat (upOf
  (List.take x_1 x))) ++ [x.getD (↑x_1 : Int).toNat (0 : Int)]).length + (List.drop (↑x_2 : Int).toNat (List.take (↑(upOf (List.take x_1 x)).length :
  Int).toNat (upOf (List.take x_1 x)))).length) * (8 : Nat) ≤ (140737488355328 : Nat) ∧ (List.drop (Int.toNat (0 : Int)) (List.take (↑x_2 : Int).toNat
  (upOf (List.take x_1 x))) ++ [x.getD (↑x_1 : Int).toNat (0 : Int)]).length + (List.drop (↑x_2 : Int).toNat (List.take (↑(upOf (List.take x_1 x)).length
  : Int).toNat (upOf (List.take x_1 x)))).length ≤ (1152921504606846976 : Nat) ∧ inI64 ((↑x_1 : Int) + (1 : Int)) ∧ ∃ y, Nat.le y x.length ∧ x.length - y
  < x.length - x_1 ∧ ((↑y : Int) = (↑x_1 : Int) + (1 : Int) ∧ upOf (List.take y x) = List.drop (Int.toNat (0 : Int)) (List.take (↑x_2 : Int).toNat (upOf
  (List.take x_1 x))) ++ [x.getD (↑x_1 : Int).toNat (0 : Int)] ++ List.drop (↑x_2 : Int).toNat (List.take (↑(upOf (List.take x_1 x)).length : Int).toNat
  (upOf (List.take x_1 x)))) ∧ ((SV.val (A := AA) (Value.slice none (0 : Nat) (0 : Nat)) = SV.val (A := AA) (Value.slice none (0 : Nat) (0 : Nat)) ∧
  True) ∧ True) ∧ True) ∧ (0 : Int) ≤ (↑x_2 : Int) ∧ (↑x_2 : Int) ≤ (↑(upOf (List.take x_1 x)).length : Int) ∧ (↑(upOf (List.take x_1 x)).length : Int) ≤
  (↑(upOf (List.take x_1 x)).length : Int) ∧ ((0 : Int) ≤ (0 : Int) ∧ (0 : Int) ≤ (↑x_2 : Int) ∧ (↑x_2 : Int) ≤ (↑(upOf (List.take x_1 x)).length : Int)
  ∧ ((List.drop (Int.toNat (0 : Int)) (List.take (↑x_2 : Int).toNat (upOf (List.take x_1 x)))).length * (8 : Nat) ≤ (140737488355328 : Nat) ∧ (List.drop
  (Int.toNat (0 : Int)) (List.take (↑x_2 : Int).toNat (upOf (List.take x_1 x)))).length ≤ (1152921504606846976 : Nat) ∧ (↑x_1 : Int).toNat < x.length ∧
  ((List.drop (Int.toNat (0 : Int)) (List.take (↑x_2 : Int).toNat (upOf (List.take x_1 x)))).length + [x.getD (↑x_1 : Int).toNat (0 : Int)].length) * (8
  : Nat) ≤ (140737488355328 : Nat) ∧ (List.drop (Int.toNat (0 : Int)) (List.take (↑x_2 : Int).toNat (upOf (List.take x_1 x)))).length + [x.getD (↑x_1 :
  Int).toNat (0 : Int)].length ≤ (1152921504606846976 : Nat) ∧ ((List.drop (Int.toNat (0 : Int)) (List.take (↑x_2 : Int).toNat (upOf (List.take x_1 x)))
  ++ [x.getD (↑x_1 : Int).toNat (0 : Int)]).length + (List.drop (↑x_2 : Int).toNat (List.take (↑(upOf (List.take x_1 x)).length : Int).toNat (upOf
  (List.take x_1 x)))).length) * (8 : Nat) ≤ (140737488355328 : Nat) ∧ (List.drop (Int.toNat (0 : Int)) (List.take (↑x_2 : Int).toNat (upOf (List.take
  x_1 x))) ++ [x.getD (↑x_1 : Int).toNat (0 : Int)]).length + (List.drop (↑x_2 : Int).toNat (List.take (↑(upOf (List.take x_1 x)).length : Int).toNat
  (upOf (List.take x_1 x)))).length ≤ (1152921504606846976 : Nat) ∧ inI64 ((↑x_1 : Int) + (1 : Int)) ∧ ∃ y, Nat.le y x.length ∧ x.length - y < x.length -
  x_1 ∧ ((↑y : Int) = (↑x_1 : Int) + (1 : Int) ∧ upOf (List.take y x) = List.drop (Int.toNat (0 : Int)) (List.take (↑x_2 : Int).toNat (upOf (List.take
  x_1 x))) ++ [x.getD (↑x_1 : Int).toNat (0 : Int)] ++ List.drop (↑x_2 : Int).toNat (List.take (↑(upOf (List.take x_1 x)).length : Int).toNat (upOf
  (List.take x_1 x)))) ∧ ((SV.val (A := AA) (Value.slice none (0 : Nat) (0 : Nat)) = SV.val (A := AA) (Value.slice none (0 : Nat) (0 : Nat)) ∧ True) ∧
  True) ∧ True) ∧ (↑x_1 : Int).toNat < x.length ∧ ((List.drop (Int.toNat (0 : Int)) (List.take (↑x_2 : Int).toNat (upOf (List.take x_1 x)))).length * (8
  : Nat) ≤ (140737488355328 : Nat) ∧ (List.drop (Int.toNat (0 : Int)) (List.take (↑x_2 : Int).toNat (upOf (List.take x_1 x)))).length ≤
  (1152921504606846976 : Nat) ∧ ((List.drop (Int.toNat (0 : Int)) (List.take (↑x_2 : Int).toNat (upOf (List.take x_1 x)))).length + [x.getD (↑x_1 :
  Int).toNat (0 : Int)].length) * (8 : Nat) ≤ (140737488355328 : Nat) ∧ (List.drop (Int.toNat (0 : Int)) (List.take (↑x_2 : Int).toNat (upOf (List.take
  x_1 x)))).length + [x.getD (↑x_1 : Int).toNat (0 : Int)].length ≤ (1152921504606846976 : Nat) ∧ ((List.drop (Int.toNat (0 : Int)) (List.take (↑x_2 :
  Int).toNat (upOf (List.take x_1 x))) ++ [x.getD (↑x_1 : Int).toNat (0 : Int)]).length + (List.drop (↑x_2 : Int).toNat (List.take (↑(upOf (List.take x_1
  x)).length : Int).toNat (upOf (List.take x_1 x)))).length) * (8 : Nat) ≤ (140737488355328 : Nat) ∧ (List.drop (Int.toNat (0 : Int)) (List.take (↑x_2 :
  Int).toNat (upOf (List.take x_1 x))) ++ [x.getD (↑x_1 : Int).toNat (0 : Int)]).length + (List.drop (↑x_2 : Int).toNat (List.take (↑(upOf (List.take x_1
  x)).length : Int).toNat (upOf (List.take x_1 x)))).length ≤ (1152921504606846976 : Nat) ∧ inI64 ((↑x_1 : Int) + (1 : Int)) ∧ ∃ y, Nat.le y x.length ∧
  x.length - y < x.length - x_1 ∧ ((↑y : Int) = (↑x_1 : Int) + (1 : Int) ∧ upOf (List.take y x) = List.drop (Int.toNat (0 : Int)) (List.take (↑x_2 :
  Int).toNat (upOf (List.take x_1 x))) ++ [x.getD (↑x_1 : Int).toNat (0 : Int)] ++ List.drop (↑x_2 : Int).toNat (List.take (↑(upOf (List.take x_1
  x)).length : Int).toNat (upOf (List.take x_1 x)))) ∧ ((SV.val (A := AA) (Value.slice none (0 : Nat) (0 : Nat)) = SV.val (A := AA) (Value.slice none (0
  : Nat) (0 : Nat)) ∧ True) ∧ True) ∧ True) ∧ (List.drop (Int.toNat (0 : Int)) (List.take (↑x_2 : Int).toNat (upOf (List.take x_1 x)))).length * (8 :
  Nat) ≤ (140737488355328 : Nat) ∧ (List.drop (Int.toNat (0 : Int)) (List.take (↑x_2 : Int).toNat (upOf (List.take x_1 x)))).length ≤
  (1152921504606846976 : Nat) ∧ ((List.drop (Int.toNat (0 : Int)) (List.take (↑x_2 : Int).toNat (upOf (List.take x_1 x)))).length + [x.getD (↑x_1 :
  Int).toNat (0 : Int)].length) * (8 : Nat) ≤ (140737488355328 : Nat) ∧ (List.drop (Int.toNat (0 : Int)) (List.take (↑x_2 : Int).toNat (upOf (List.take
  x_1 x)))).length + [x.getD (↑x_1 : Int).toNat (0 : Int)].length ≤ (1152921504606846976 : Nat) ∧ ((List.drop (Int.toNat (0 : Int)) (List.take (↑x_2 :
  Int).toNat (upOf (List.take x_1 x))) ++ [x.getD (↑x_1 : Int).toNat (0 : Int)]).length + (List.drop (↑x_2 : Int).toNat (List.take (↑(upOf (List.take x_1
  x)).length : Int).toNat (upOf (List.take x_1 x)))).length) * (8 : Nat) ≤ (140737488355328 : Nat) ∧ (List.drop (Int.toNat (0 : Int)) (List.take (↑x_2 :
  Int).toNat (upOf (List.take x_1 x))) ++ [x.getD (↑x_1 : Int).toNat (0 : Int)]).length + (List.drop (↑x_2 : Int).toNat (List.take (↑(upOf (List.take x_1
  x)).length : Int).toNat (upOf (List.take x_1 x)))).length ≤ (1152921504606846976 : Nat) ∧ inI64 ((↑x_1 : Int) + (1 : Int)) ∧ ∃ y, Nat.le y x.length ∧
  x.length - y < x.length - x_1 ∧ ((↑y : Int) = (↑x_1 : Int) + (1 : Int) ∧ upOf (List.take y x) = List.drop (Int.toNat (0 : Int)) (List.take (↑x_2 :
  Int).toNat (upOf (List.take x_1 x))) ++ [x.getD (↑x_1 : Int).toNat (0 : Int)] ++ List.drop (↑x_2 : Int).toNat (List.take (↑(upOf (List.take x_1
  x)).length : Int).toNat (upOf (List.take x_1 x)))) ∧ ((SV.val (A := AA) (Value.slice none (0 : Nat) (0 : Nat)) = SV.val (A := AA) (Value.slice none (0
  : Nat) (0 : Nat)) ∧ True) ∧ True) ∧ True) ∧ (↑x_1 : Int).toNat < x.length ∧ ((0 : Int) ≤ (0 : Int) ∧ (0 : Int) ≤ (↑x_2 : Int) ∧ (↑x_2 : Int) ≤ (↑(upOf
  (List.take x_1 x)).length : Int) ∧ ((List.drop (Int.toNat (0 : Int)) (List.take (↑x_2 : Int).toNat (upOf (List.take x_1 x)))).length * (8 : Nat) ≤
  (140737488355328 : Nat) ∧ (List.drop (Int.toNat (0 : Int)) (List.take (↑x_2 : Int).toNat (upOf (List.take x_1 x)))).length ≤ (1152921504606846976 :
  Nat) ∧ ((List.drop (Int.toNat (0 : Int)) (List.take (↑x_2 : Int).toNat (upOf (List.take x_1 x)))).length + [x.getD (↑x_1 : Int).toNat (0 :
  Int)].length) * (8 : Nat) ≤ (140737488355328 : Nat) ∧ (List.drop (Int.toNat (0 : Int)) (List.take (↑x_2 : Int).toNat (upOf (List.take x_1 x)))).length
  + [x.getD (↑x_1 : Int).toNat (0 : Int)].length ≤ (1152921504606846976 : Nat) ∧ ((List.drop (Int.toNat (0 : Int)) (List.take (↑x_2 : Int).toNat (upOf
  (List.take x_1 x))) ++ [x.getD (↑x_1 : Int).toNat (0 : Int)]).length + (List.drop (↑x_2 : Int).toNat (List.take (↑(upOf (List.take x_1 x)).length :
  Int).toNat (upOf (List.take x_1 x)))).length) * (8 : Nat) ≤ (140737488355328 : Nat) ∧ (List.drop (Int.toNat (0 : Int)) (List.take (↑x_2 : Int).toNat
  (upOf (List.take x_1 x))) ++ [x.getD (↑x_1 : Int).toNat (0 : Int)]).length + (List.drop (↑x_2 : Int).toNat (List.take (↑(upOf (List.take x_1 x)).length
  : Int).toNat (upOf (List.take x_1 x)))).length ≤ (1152921504606846976 : Nat) ∧ inI64 ((↑x_1 : Int) + (1 : Int)) ∧ ∃ y, Nat.le y x.length ∧ x.length - y
  < x.length - x_1 ∧ ((↑y : Int) = (↑x_1 : Int) + (1 : Int) ∧ upOf (List.take y x) = List.drop (Int.toNat (0 : Int)) (List.take (↑x_2 : Int).toNat (upOf
  (List.take x_1 x))) ++ [x.getD (↑x_1 : Int).toNat (0 : Int)] ++ List.drop (↑x_2 : Int).toNat (List.take (↑(upOf (List.take x_1 x)).length : Int).toNat
  (upOf (List.take x_1 x)))) ∧ ((SV.val (A := AA) (Value.slice none (0 : Nat) (0 : Nat)) = SV.val (A := AA) (Value.slice none (0 : Nat) (0 : Nat)) ∧
  True) ∧ True) ∧ True) ∧ (List.drop (Int.toNat (0 : Int)) (List.take (↑x_2 : Int).toNat (upOf (List.take x_1 x)))).length * (8 : Nat) ≤ (140737488355328
  : Nat) ∧ (List.drop (Int.toNat (0 : Int)) (List.take (↑x_2 : Int).toNat (upOf (List.take x_1 x)))).length ≤ (1152921504606846976 : Nat) ∧ ((List.drop
  (Int.toNat (0 : Int)) (List.take (↑x_2 : Int).toNat (upOf (List.take x_1 x)))).length + [x.getD (↑x_1 : Int).toNat (0 : Int)].length) * (8 : Nat) ≤
  (140737488355328 : Nat) ∧ (List.drop (Int.toNat (0 : Int)) (List.take (↑x_2 : Int).toNat (upOf (List.take x_1 x)))).length + [x.getD (↑x_1 : Int).toNat
  (0 : Int)].length ≤ (1152921504606846976 : Nat) ∧ ((List.drop (Int.toNat (0 : Int)) (List.take (↑x_2 : Int).toNat (upOf (List.take x_1 x))) ++ [x.getD
  (↑x_1 : Int).toNat (0 : Int)]).length + (List.drop (↑x_2 : Int).toNat (List.take (↑(upOf (List.take x_1 x)).length : Int).toNat (upOf (List.take x_1
  x)))).length) * (8 : Nat) ≤ (140737488355328 : Nat) ∧ (List.drop (Int.toNat (0 : Int)) (List.take (↑x_2 : Int).toNat (upOf (List.take x_1 x))) ++
  [x.getD (↑x_1 : Int).toNat (0 : Int)]).length + (List.drop (↑x_2 : Int).toNat (List.take (↑(upOf (List.take x_1 x)).length : Int).toNat (upOf
  (List.take x_1 x)))).length ≤ (1152921504606846976 : Nat) ∧ inI64 ((↑x_1 : Int) + (1 : Int)) ∧ ∃ y, Nat.le y x.length ∧ x.length - y < x.length - x_1 ∧
  ((↑y : Int) = (↑x_1 : Int) + (1 : Int) ∧ upOf (List.take y x) = List.drop (Int.toNat (0 : Int)) (List.take (↑x_2 : Int).toNat (upOf (List.take x_1 x)))
  ++ [x.getD (↑x_1 : Int).toNat (0 : Int)] ++ List.drop (↑x_2 : Int).toNat (List.take (↑(upOf (List.take x_1 x)).length : Int).toNat (upOf (List.take x_1
  x)))) ∧ ((SV.val (A := AA) (Value.slice none (0 : Nat) (0 : Nat)) = SV.val (A := AA) (Value.slice none (0 : Nat) (0 : Nat)) ∧ True) ∧ True) ∧ True) ∧
  (0 : Int) ≤ (0 : Int) ∧ (0 : Int) ≤ (↑x_2 : Int) ∧ (↑x_2 : Int) ≤ (↑(upOf (List.take x_1 x)).length : Int) ∧ (List.drop (Int.toNat (0 : Int))
  (List.take (↑x_2 : Int).toNat (upOf (List.take x_1 x)))).length * (8 : Nat) ≤ (140737488355328 : Nat) ∧ (List.drop (Int.toNat (0 : Int)) (List.take
  (↑x_2 : Int).toNat (upOf (List.take x_1 x)))).length ≤ (1152921504606846976 : Nat) ∧ ((List.drop (Int.toNat (0 : Int)) (List.take (↑x_2 : Int).toNat
  (upOf (List.take x_1 x)))).length + [x.getD (↑x_1 : Int).toNat (0 : Int)].length) * (8 : Nat) ≤ (140737488355328 : Nat) ∧ (List.drop (Int.toNat (0 :
  Int)) (List.take (↑x_2 : Int).toNat (upOf (List.take x_1 x)))).length + [x.getD (↑x_1 : Int).toNat (0 : Int)].length ≤ (1152921504606846976 : Nat) ∧
  ((List.drop (Int.toNat (0 : Int)) (List.take (↑x_2 : Int).toNat (upOf (List.take x_1 x))) ++ [x.getD (↑x_1 : Int).toNat (0 : Int)]).length + (List.drop
  (↑x_2 : Int).toNat (List.take (↑(upOf (List.take x_1 x)).length : Int).toNat (upOf (List.take x_1 x)))).length) * (8 : Nat) ≤ (140737488355328 : Nat) ∧
  (List.drop (Int.toNat (0 : Int)) (List.take (↑x_2 : Int).toNat (upOf (List.take x_1 x))) ++ [x.getD (↑x_1 : Int).toNat (0 : Int)]).length + (List.drop
  (↑x_2 : Int).toNat (List.take (↑(upOf (List.take x_1 x)).length : Int).toNat (upOf (List.take x_1 x)))).length ≤ (1152921504606846976 : Nat) ∧ inI64
  ((↑x_1 : Int) + (1 : Int)) ∧ ∃ y, Nat.le y x.length ∧ x.length - y < x.length - x_1 ∧ ((↑y : Int) = (↑x_1 : Int) + (1 : Int) ∧ upOf (List.take y x) =
  List.drop (Int.toNat (0 : Int)) (List.take (↑x_2 : Int).toNat (upOf (List.take x_1 x))) ++ [x.getD (↑x_1 : Int).toNat (0 : Int)] ++ List.drop (↑x_2 :
  Int).toNat (List.take (↑(upOf (List.take x_1 x)).length : Int).toNat (upOf (List.take x_1 x)))) ∧ ((SV.val (A := AA) (Value.slice none (0 : Nat) (0 :
  Nat)) = SV.val (A := AA) (Value.slice none (0 : Nat) (0 : Nat)) ∧ True) ∧ True) ∧ True)) ∧ (decide ((↑x_2 : Int) < (↑(upOf (List.take x_1 x)).length :
  Int)) = false → (0 : Int) ≤ (↑x_1 : Int) ∧ (↑x_1 : Int) < (↑x.length : Int) ∧ ((0 : Int) ≤ (0 : Int) ∧ (0 : Int) ≤ (↑x_2 : Int) ∧ (↑x_2 : Int) ≤
  (↑(upOf (List.take x_1 x)).length : Int) ∧ ((List.drop (Int.toNat (0 : Int)) (List.take (↑x_2 : Int).toNat (upOf (List.take x_1 x)))).length * (8 :
  Nat) ≤ (140737488355328 : Nat) ∧ (List.drop (Int.toNat (0 : Int)) (List.take (↑x_2 : Int).toNat (upOf (List.take x_1 x)))).length ≤
  (1152921504606846976 : Nat) ∧ (↑x_1 : Int).toNat < x.length ∧ ((((List.drop (Int.toNat (0 : Int)) (List.take (↑x_2 : Int).toNat (upOf (List.take x_1
  x)))).length + [x.getD (↑x_1 : Int).toNat (0 : Int)].length) * (8 : Nat) ≤ (140737488355328 : Nat) ∧ (List.drop (Int.toNat (0 : Int)) (List.take (↑x_2
  : Int).toNat (upOf (List.take x_1 x)))).length + [x.getD (↑x_1 : Int).toNat (0 : Int)].length ≤ (1152921504606846976 : Nat) ∧ (0 : Int) ≤ (↑x_2 : Int)
  ∧ (↑x_2 : Int) ≤ (↑(upOf (List.take x_1 x)).length : Int) ∧ (↑(upOf (List.take x_1 x)).length : Int) ≤ (↑(upOf (List.take x_1 x)).length : Int) ∧
  ((List.drop (Int.toNat (0 : Int)) (List.take (↑x_2 : Int).toNat (upOf (List.take x_1 x))) ++ [x.getD (↑x_1 : Int).toNat (0 : Int)]).length + (List.drop
  (↑x_2 : Int).toNat (List.take (↑(upOf (List.take x_1 x)).length : Int).toNat (upOf (List.take x_1 x)))).length) * (8 : Nat) ≤ (140737488355328 : Nat) ∧
  (List.drop (Int.toNat (0 : Int)) (List.take (↑x_2 : Int).toNat (upOf (List.take x_1 x))) ++ [x.getD (↑x_1 : Int).toNat (0 : Int)]).length + (List.drop
  (↑x_2 : Int).toNat (List.take (↑(upOf (List.take x_1 x)).length : Int).toNat (upOf (List.take x_1 x)))).length ≤ (1152921504606846976 : Nat) ∧ inI64
  ((↑x_1 : Int) + (1 : Int)) ∧ ∃ y, Nat.le y x.length ∧ x.length - y < x.length - x_1 ∧ ((↑y : Int) = (↑x_1 : Int) + (1 : Int) ∧ upOf (List.take y x) =
  List.drop (Int.toNat (0 : Int)) (List.take (↑x_2 : Int).toNat (upOf (List.take x_1 x))) ++ [x.getD (↑x_1 : Int).toNat (0 : Int)] ++ List.drop (↑x_2 :
  Int).toNat (List.take (↑(upOf (List.take x_1 x)).length : Int).toNat (upOf (List.take x_1 x)))) ∧ ((SV.val (A := AA) (Value.slice none (0 : Nat) (0 :
  Nat)) = SV.val (A := AA) (Value.slice none (0 : Nat) (0 : Nat)) ∧ True) ∧ True) ∧ True) ∧ (0 : Int) ≤ (↑x_2 : Int) ∧ (↑x_2 : Int) ≤ (↑(upOf (List.take
  x_1 x)).length : Int) ∧ (↑(upOf (List.take x_1 x)).length : Int) ≤ (↑(upOf (List.take x_1 x)).length : Int) ∧ ((List.drop (Int.toNat (0 : Int))
  (List.take (↑x_2 : Int).toNat (upOf (List.take x_1 x)))).length + [x.getD (↑x_1 : Int).toNat (0 : Int)].length) * (8 : Nat) ≤ (140737488355328 : Nat) ∧
  (List.drop (Int.toNat (0 : Int)) (List.take (↑x_2 : Int).toNat (upOf (List.take x_1 x)))).length + [x.getD (↑x_1 : Int).toNat (0 : Int)].length ≤
  (1152921504606846976 : Nat) ∧ ((List.drop (Int.toNat (0 : Int)) (List.take (↑x_2 : Int).toNat (upOf (List.take x_1 x))) ++ [x.getD (↑x_1 : Int).toNat
  (0 : Int)]).length + (List.drop (↑x_2 : Int).toNat (List.take (↑(upOf (List.take x_1 x)).length : Int).toNat (upOf (List.take x_1 x)))).length) * (8 :
  Nat) ≤ (140737488355328 : Nat) ∧ (List.drop (Int.toNat (0 : Int)) (List.take (↑x_2 : Int).toNat (upOf (List.take x_1 x))) ++ [x.getD (↑x_1 : Int).toNat
  (0 : Int)]).length + (List.drop (↑x_2 : Int).toNat (List.take (↑(upOf (List.take x_1 x)).length : Int).toNat (upOf (List.take x_1 x)))).length ≤
  (1152921504606846976 : Nat) ∧ inI64 ((↑x_1 : Int) + (1 : Int)) ∧ ∃ y, Nat.le y x.length ∧ x.length - y < x.length - x_1 ∧ ((↑y : Int) = (↑x_1 : Int) +
  (1 : Int) ∧ upOf (List.take y x) = List.drop (Int.toNat (0 : Int)) (List.take (↑x_2 : Int).toNat (upOf (List.take x_1 x))) ++ [x.getD (↑x_1 :
  Int).toNat (0 : Int)] ++ List.drop (↑x_2 : Int).toNat (List.take (↑(upOf (List.take x_1 x)).length : Int).toNat (upOf (List.take x_1 x)))) ∧ ((SV.val
  (A := AA) (Value.slice none (0 : Nat) (0 : Nat)) = SV.val (A := AA) (Value.slice none (0 : Nat) (0 : Nat)) ∧ True) ∧ True) ∧ True) ∧ (0 : Int) ≤ (↑x_2
  : Int) ∧ (↑x_2 : Int) ≤ (↑(upOf (List.take x_1 x)).length : Int) ∧ (↑(upOf (List.take x_1 x)).length : Int) ≤ (↑(upOf (List.take x_1 x)).length : Int)
  ∧ ((List.drop (Int.toNat (0 : Int)) (List.take (↑x_2 : Int).toNat (upOf (List.take x_1 x)))).length + [x.getD (↑x_1 : Int).toNat (0 : Int)].length) *
  (8 : Nat) ≤ (140737488355328 : Nat) ∧ (List.drop (Int.toNat (0 : Int)) (List.take (↑x_2 : Int).toNat (upOf (List.take x_1 x)))).length + [x.getD (↑x_1
  : Int).toNat (0 : Int)].length ≤ (1152921504606846976 : Nat) ∧ ((List.drop (Int.toNat (0 : Int)) (List.take (↑x_2 : Int).toNat (upOf (List.take x_1
  x))) ++ [x.getD (↑x_1 : Int).toNat (0 : Int)]).length + (List.drop (↑x_2 : Int).toNat (List.take (↑(upOf (List.take x_1 x)).length : Int).toNat (upOf
  (List.take x_1 x)))).length) * (8 : Nat) ≤ (140737488355328 : Nat) ∧ (List.drop (Int.toNat (0 : Int)) (List.take (↑x_2 : Int).toNat (upOf (List.take
  x_1 x))) ++ [x.getD (↑x_1 : Int).toNat (0 : Int)]).length + (List.drop (↑x_2 : Int).toNat (List.take (↑(upOf (List.take x_1 x)).length : Int).toNat
  (upOf (List.take x_1 x)))).length ≤ (1152921504606846976 : Nat) ∧ inI64 ((↑x_1 : Int) + (1 : Int)) ∧ ∃ y, Nat.le y x.length ∧ x.length - y < x.length -
  x_1 ∧ ((↑y : Int) = (↑x_1 : Int) + (1 : Int) ∧ upOf (List.take y x) = List.drop (Int.toNat (0 : Int)) (List.take (↑x_2 : Int).toNat (upOf (List.take
  x_1 x))) ++ [x.getD (↑x_1 : Int).toNat (0 : Int)] ++ List.drop (↑x_2 : Int).toNat (List.take (↑(upOf (List.take x_1 x)).length : Int).toNat (upOf
  (List.take x_1 x)))) ∧ ((SV.val (A := AA) (Value.slice none (0 : Nat) (0 : Nat)) = SV.val (A := AA) (Value.slice none (0 : Nat) (0 : Nat)) ∧ True) ∧
  True) ∧ True) ∧ ((↑x_1 : Int).toNat < x.length ∧ ((List.drop (Int.toNat (0 : Int)) (List.take (↑x_2 : Int).toNat (upOf (List.take x_1 x)))).length * (8
  : Nat) ≤ (140737488355328 : Nat) ∧ (List.drop (Int.toNat (0 : Int)) (List.take (↑x_2 : Int).toNat (upOf (List.take x_1 x)))).length ≤
  (1152921504606846976 : Nat) ∧ ((((List.drop (Int.toNat (0 : Int)) (List.take (↑x_2 : Int).toNat (upOf (List.take x_1 x)))).length + [x.getD (↑x_1 :
  Int).toNat (0 : Int)].length) * (8 : Nat) ≤ (140737488355328 : Nat) ∧ (List.drop (Int.toNat (0 : Int)) (List.take (↑x_2 : Int).toNat (upOf (List.take
  x_1 x)))).length + [x.getD (↑x_1 : Int).toNat (0 : Int)].length ≤ (1152921504606846976 : Nat) ∧ (0 : Int) ≤ (↑x_2 : Int) ∧ (↑x_2 : Int) ≤ (↑(upOf
  (List.take x_1 x)).length : Int) ∧ (↑(upOf (List.take x_1 x)).length : Int) ≤ (↑(upOf (List.take x_1 x)).length : Int) ∧ ((List.drop (Int.toNat (0 :
  Int)) (List.take (↑x_2 : Int).toNat (upOf (List.take x_1 x))) ++ [x.getD (↑x_1 : Int).toNat (0 : Int)]).length + (List.drop (↑x_2 : Int).toNat
  (List.take (↑(upOf (List.take x_1 x)).length : Int).toNat (upOf (List.take x_1 x)))).length) * (8 : Nat) ≤ (140737488355328 : Nat) ∧ (List.drop
  (Int.toNat (0 : Int)) (List.take (↑x_2 : Int).toNat (upOf (List.take x_1 x))) ++ [x.getD (↑x_1 : Int).toNat (0 : Int)]).length + (List.drop (↑x_2 :
  Int).toNat (List.take (↑(upOf (List.take x_1 x)).length : Int).toNat (upOf (List.take x_1 x)))).length ≤ (1152921504606846976 : Nat) ∧ inI64 ((↑x_1 :
  Int) + (1 : Int)) ∧ ∃ y, Nat.le y x.length ∧ x.length - y < x.length - x_1 ∧ ((↑y : Int) = (↑x_1 : Int) + (1 : Int) ∧ upOf (List.take y x) = List.drop
  (Int.toNat (0 : Int)) (List.take (↑x_2 : Int).toNat (upOf (List.take x_1 x))) ++ [x.getD (↑x_1 : Int).toNat (0 : Int)] ++ List.drop (↑x_2 : Int).toNat
  (List.take (↑(upOf (List.take x_1 x)).length : Int).toNat (upOf (List.take x_1 x)))) ∧ ((SV.val (A := AA) (Value.slice none (0 : Nat) (0 : Nat)) =
  SV.val (A := AA) (Value.slice none (0 : Nat) (0 : Nat)) ∧ True) ∧ True) ∧ True) ∧ (0 : Int) ≤ (↑x_2 : Int) ∧ (↑x_2 : Int) ≤ (↑(upOf (List.take x_1
  x)).length : Int) ∧ (↑(upOf (List.take x_1 x)).length : Int) ≤ (↑(upOf (List.take x_1 x)).length : Int) ∧ ((List.drop (Int.toNat (0 : Int)) (List.take
  (↑x_2 : Int).toNat (upOf (List.take x_1 x)))).length + [x.getD (↑x_1 : Int).toNat (0 : Int)].length) * (8 : Nat) ≤ (140737488355328 : Nat) ∧ (List.drop
  (Int.toNat (0 : Int)) (List.take (↑x_2 : Int).toNat (upOf (List.take x_1 x)))).length + [x.getD (↑x_1 : Int).toNat (0 : Int)].length ≤
  (1152921504606846976 : Nat) ∧ ((List.drop (Int.toNat (0 : Int)) (List.take (↑x_2 : Int).toNat (upOf (List.take x_1 x))) ++ [x.getD (↑x_1 : Int).toNat
  (0 : Int)]).length + (List.drop (↑x_2 : Int).toNat (List.take (↑(upOf (List.take x_1 x)).length : Int).toNat (upOf (List.take x_1 x)))).length) * (8 :
  Nat) ≤ (140737488355328 : Nat) ∧ (List.drop (Int.toNat (0 : Int)) (List.take (↑x_2 : Int).toNat (upOf (List.take x_1 x))) ++ [x.getD (↑x_1 : Int).toNat
  (0 : Int)]).length + (List.drop (↑x_2 : Int).toNat (List.take (↑(upOf (List.take x_1 x)).length : Int).toNat (upOf (List.take x_1 x)))).length ≤
  (1152921504606846976 : Nat) ∧ inI64 ((↑x_1 : Int) + (1 : Int)) ∧ ∃ y, Nat.le y x.length ∧ x.length - y < x.length - x_1 ∧ ((↑y : Int) = (↑x_1 : Int) +
  (1 : Int) ∧ upOf (List.take y x) = List.drop (Int.toNat (0 : Int)) (List.take (↑x_2 : Int).toNat (upOf (List.take x_1 x))) ++ [x.getD (↑x_1 :
  Int).toNat (0 : Int)] ++ List.drop (↑x_2 : Int).toNat (List.take (↑(upOf (List.take x_1 x)).length : Int).toNat (upOf (List.take x_1 x)))) ∧ ((SV.val
  (A := AA) (Value.slice none (0 : Nat) (0 : Nat)) = SV.val (A := AA) (Value.slice none (0 : Nat) (0 : Nat)) ∧ True) ∧ True) ∧ True) ∧ (0 : Int) ≤ (↑x_2
  : Int) ∧ (↑x_2 : Int) ≤ (↑(upOf (List.take x_1 x)).length : Int) ∧ (↑(upOf (List.take x_1 x)).length : Int) ≤ (↑(upOf (List.take x_1 x)).length : Int)
  ∧ ((List.drop (Int.toNat (0 : Int)) (List.take (↑x_2 : Int).toNat (upOf (List.take x_1 x)))).length + [x.getD (↑x_1 : Int).toNat (0 : Int)].length) *
  (8 : Nat) ≤ (140737488355328 : Nat) ∧ (List.drop (Int.toNat (0 : Int)) (List.take (↑x_2 : Int).toNat (upOf (List.take x_1 x)))).length + [x.getD (↑x_1
  : Int).toNat (0 : Int)].length ≤ (1152921504606846976 : Nat) ∧ ((List.drop (Int.toNat (0 : Int)) (List.take (↑x_2 : Int).toNat (upOf (List.take x_1
  x))) ++ [x.getD (↑x_1 : Int).toNat (0 : Int)]).length + (List.drop (↑x_2 : Int).toNat (List.take (↑(upOf (List.take x_1 x)).length : Int).toNat (upOf
  (List.take x_1 x)))).length) * (8 : Nat) ≤ (140737488355328 : Nat) ∧ (List.drop (Int.toNat (0 : Int)) (List.take (↑x_2 : Int).toNat (upOf (List.take
  x_1 x))) ++ [x.getD (↑x_1 : Int).toNat (0 : Int)]).length + (List.drop (↑x_2 : Int).toNat (List.take (↑(upOf (List.take x_1 x)).length : Int).toNat
  (upOf (List.take x_1 x)))).length ≤ (1152921504606846976 : Nat) ∧ inI64 ((↑x_1 : Int) + (1 : Int)) ∧ ∃ y, Nat.le y x.length ∧ x.length - y < x.length -
  x_1 ∧ ((↑y : Int) = (↑x_1 : Int) + (1 : Int) ∧ upOf (List.take y x) = List.drop (Int.toNat (0 : Int)) (List.take (↑x_2 : Int).toNat (upOf (List.take
  x_1 x))) ++ [x.getD (↑x_1 : Int).toNat (0 : Int)] ++ List.drop (↑x_2 : Int).toNat (List.take (↑(upOf (List.take x_1 x)).length : Int).toNat (upOf
  (List.take x_1 x)))) ∧ ((SV.val (A := AA) (Value.slice none (0 : Nat) (0 : Nat)) = SV.val (A := AA) (Value.slice none (0 : Nat) (0 : Nat)) ∧ True) ∧
  True) ∧ True) ∧ (((List.drop (Int.toNat (0 : Int)) (List.take (↑x_2 : Int).toNat (upOf (List.take x_1 x)))).length * (8 : Nat) ≤ (140737488355328 :
  Nat) ∧ (List.drop (Int.toNat (0 : Int)) (List.take (↑x_2 : Int).toNat (upOf (List.take x_1 x)))).length ≤ (1152921504606846976 : Nat) ∧ (((List.drop
  (Int.toNat (0 : Int)) (List.take (↑x_2 : Int).toNat (upOf (List.take x_1 x)))).length + [x.getD (↑x_1 : Int).toNat (0 : Int)].length) * (8 : Nat) ≤
  (140737488355328 : Nat) ∧ (List.drop (Int.toNat (0 : Int)) (List.take (↑x_2 : Int).toNat (upOf (List.take x_1 x)))).length + [x.getD (↑x_1 : Int).toNat
  (0 : Int)].length ≤ (1152921504606846976 : Nat) ∧ (0 : Int) ≤ (↑x_2 : Int) ∧ (↑x_2 : Int) ≤ (↑(upOf (List.take x_1 x)).length : Int) ∧ (↑(upOf
  (List.take x_1 x)).length : Int) ≤ (↑(upOf (List.take x_1 x)).length : Int) ∧ ((List.drop (Int.toNat (0 : Int)) (List.take (↑x_2 : Int).toNat (upOf
  (List.take x_1 x))) ++ [x.getD (↑x_1 : Int).toNat (0 : Int)]).length + (List.drop (↑x_2 : Int).toNat (List.take (↑(upOf (List.take x_1 x)).length :
  Int).toNat (upOf (List.take x_1 x)))).length) * (8 : Nat) ≤ (140737488355328 : Nat) ∧ (List.drop (Int.toNat (0 : Int)) (List.take (↑x_2 : Int).toNat
  (upOf (List.take x_1 x))) ++ [x.getD (↑x_1 : Int).toNat (0 : Int)]).length + (List.drop (↑x_2 : Int).toNat (List.take (↑(upOf (List.take x_1 x)).length
  : Int).toNat (upOf (List.take x_1 x)))).length ≤ (1152921504606846976 : Nat) ∧ inI64 ((↑x_1 : Int) + (1 : Int)) ∧ ∃ y, Nat.le y x.length ∧ x.length - y
  < x.length - x_1 ∧ ((↑y : Int) = (↑x_1 : Int) + (1 : Int) ∧ upOf (List.take y x) = List.drop (Int.toNat (0 : Int)) (List.take (↑x_2 : Int).toNat (upOf
  (List.take x_1 x))) ++ [x.getD (↑x_1 : Int).toNat (0 : Int)] ++ List.drop (↑x_2 : Int).toNat (List.take (↑(upOf (List.take x_1 x)).length : Int).toNat
  (upOf (List.take x_1 x)))) ∧ ((SV.val (A := AA) (Value.slice none (0 : Nat) (0 : Nat)) = SV.val (A := AA) (Value.slice none (0 : Nat) (0 : Nat)) ∧
  True) ∧ True) ∧ True) ∧ (0 : Int) ≤ (↑x_2 : Int) ∧ (↑x_2 : Int) ≤ (↑(upOf (List.take x_1 x)).length : Int) ∧ (↑(upOf (List.take x_1 x)).length : Int) ≤
  (↑(upOf (List.take x_1 x)).length : Int) ∧ ((List.drop (Int.toNat (0 : Int)) (List.take (↑x_2 : Int).toNat (upOf (List.take x_1 x)))).length + [x.getD
  (↑x_1 : Int).toNat (0 : Int)].length) * (8 : Nat) ≤ (140737488355328 : Nat) ∧ (List.drop (Int.toNat (0 : Int)) (List.take (↑x_2 : Int).toNat (upOf
  (List.take x_1 x)))).length + [x.getD (↑x_1 : Int).toNat (0 : Int)].length ≤ (1152921504606846976 : Nat) ∧ ((List.drop (Int.toNat (0 : Int)) (List.take
  (↑x_2 : Int).toNat (upOf (List.take x_1 x))) ++ [x.getD (↑x_1 : Int).toNat (0 : Int)]).length + (List.drop (↑x_2 : Int).toNat (List.take (↑(upOf
  (List.take x_1 x)).length : Int).toNat (upOf (List.take x_1 x)))).length) * (8 : Nat) ≤ (140737488355328 : Nat) ∧ (List.drop (Int.toNat (0 : Int))
  (List.take (↑x_2 : Int).toNat (upOf (List.take x_1 x))) ++ [x.getD (↑x_1 : Int).toNat (0 : Int)]).length + (List.drop (↑x_2 : Int).toNat (List.take
  (↑(upOf (List.take x_1 x)).length : Int).toNat (upOf (List.take x_1 x)))).length ≤ (1152921504606846976 : Nat) ∧ inI64 ((↑x_1 : Int) + (1 : Int)) ∧ ∃
  y, Nat.le y x.length ∧ x.length - y < x.length - x_1 ∧ ((↑y : Int) = (↑x_1 : Int) + (1 : Int) ∧ upOf (List.take y x) = List.drop (Int.toNat (0 : Int))
  (List.take (↑x_2 : Int).toNat (upOf (List.take x_1 x))) ++ [x.getD (↑x_1 : Int).toNat (0 : Int)] ++ List.drop (↑x_2 : Int).toNat (List.take (↑(upOf
  (List.take x_1 x)).length : Int).toNat (upOf (List.take x_1 x)))) ∧ ((SV.val (A := AA) (Value.slice none (0 : Nat) (0 : Nat)) = SV.val (A := AA)
  (Value.slice none (0 : Nat) (0 : Nat)) ∧ True) ∧ True) ∧ True) ∧ (0 : Int) ≤ (↑x_2 : Int) ∧ (↑x_2 : Int) ≤ (↑(upOf (List.take x_1 x)).length : Int) ∧
  (↑(upOf (List.take x_1 x)).length : Int) ≤ (↑(upOf (List.take x_1 x)).length : Int) ∧ (List.drop (Int.toNat (0 : Int)) (List.take (↑x_2 : Int).toNat
  (upOf (List.take x_1 x)))).length * (8 : Nat) ≤ (140737488355328 : Nat) ∧ (List.drop (Int.toNat (0 : Int)) (List.take (↑x_2 : Int).toNat (upOf
  (List.take x_1 x)))).length ≤ (1152921504606846976 : Nat) ∧ ((List.drop (Int.toNat (0 : Int)) (List.take (↑x_2 : Int).toNat (upOf (List.take x_1
  x)))).length + [x.getD (↑x_1 : Int).toNat (0 : Int)].length) * (8 : Nat) ≤ (140737488355328 : Nat) ∧ (List.drop (Int.toNat (0 : Int)) (List.take (↑x_2
  : Int).toNat (upOf (List.take x_1 x)))).length + [x.getD (↑x_1 : Int).toNat (0 : Int)].length ≤ (1152921504606846976 : Nat) ∧ ((List.drop (Int.toNat (0
  : Int)) (List.take (↑x_2 : Int).toNat (upOf (List.take x_1 x))) ++ [x.getD (↑x_1 : Int).toNat (0 : Int)]).length + (List.drop (↑x_2 : Int).toNat
  (List.take (↑(upOf (List.take x_1 x)).length : Int).toNat (upOf (List.take x_1 x)))).length) * (8 : Nat) ≤ (140737488355328 : Nat) ∧ (List.drop
  (Int.toNat (0 : Int)) (List.take (↑x_2 : Int).toNat (upOf (List.take x_1 x))) ++ [x.getD (↑x_1 : Int).toNat (0 : Int)]).length + (List.drop (↑x_2 :
  Int).toNat (List.take (↑(upOf (List.take x_1 x)).length : Int).toNat (upOf (List.take x_1 x)))).length ≤ (1152921504606846976 : Nat) ∧ inI64 ((↑x_1 :
  Int) + (1 : Int)) ∧ ∃ y, Nat.le y x.length ∧ x.length - y < x.length - x_1 ∧ ((↑y : Int) = (↑x_1 : Int) + (1 : Int) ∧ upOf (List.take y x) = List.drop
  (Int.toNat (0 : Int)) (List.take (↑x_2 : Int).toNat (upOf (List.take x_1 x))) ++ [x.getD (↑x_1 : Int).toNat (0 : Int)] ++ List.drop (↑x_2 : Int).toNat
  (List.take (↑(upOf (List.take x_1 x)).length : Int).toNat (upOf (List.take x_1 x)))) ∧ ((SV.val (A := AA) (Value.slice none (0 : Nat) (0 : Nat)) =
  SV.val (A := AA) (Value.slice none (0 : Nat) (0 : Nat)) ∧ True) ∧ True) ∧ True) ∧ (0 : Int) ≤ (↑x_2 : Int) ∧ (↑x_2 : Int) ≤ (↑(upOf (List.take x_1
  x)).length : Int) ∧ (↑(upOf (List.take x_1 x)).length : Int) ≤ (↑(upOf (List.take x_1 x)).length : Int) ∧ ((List.drop (Int.toNat (0 : Int)) (List.take
  (↑x_2 : Int).toNat (upOf (List.take x_1 x)))).length * (8 : Nat) ≤ (140737488355328 : Nat) ∧ (List.drop (Int.toNat (0 : Int)) (List.take (↑x_2 :
  Int).toNat (upOf (List.take x_1 x)))).length ≤ (1152921504606846976 : Nat) ∧ ((List.drop (Int.toNat (0 : Int)) (List.take (↑x_2 : Int).toNat (upOf
  (List.take x_1 x)))).length + [x.getD (↑x_1 : Int).toNat (0 : Int)].length) * (8 : Nat) ≤ (140737488355328 : Nat) ∧ (List.drop (Int.toNat (0 : Int))
  (List.take (↑x_2 : Int).toNat (upOf (List.take x_1 x)))).length + [x.getD (↑x_1 : Int).toNat (0 : Int)].length ≤ (1152921504606846976 : Nat) ∧
  ((List.drop (Int.toNat (0 : Int)) (List.take (↑x_2 : Int).toNat (upOf (List.take x_1 x))) ++ [x.getD (↑x_1 : Int).toNat (0 : Int)]).length + (List.drop
  (↑x_2 : Int).toNat (List.take (↑(upOf (List.take x_1 x)).length : Int).toNat (upOf (List.take x_1 x)))).length) * (8 : Nat) ≤ (140737488355328 : Nat) ∧
  (List.drop (Int.toNat (0 : Int)) (List.take (↑x_2 : Int).toNat (upOf (List.take x_1 x))) ++ [x.getD (↑x_1 : Int).toNat (0 : Int)]).length + (List.drop
  (↑x_2 : Int).toNat (List.take (↑(upOf (List.take x_1 x)).length : Int).toNat (upOf (List.take x_1 x)))).length ≤ (1152921504606846976 : Nat) ∧ inI64
  ((↑x_1 : Int) + (1 : Int)) ∧ ∃ y, Nat.le y x.length ∧ x.length - y < x.length - x_1 ∧ ((↑y : Int) = (↑x_1 : Int) + (1 : Int) ∧ upOf (List.take y x) =
  List.drop (Int.toNat (0 : Int)) (List.take (↑x_2 : Int).toNat (upOf (List.take x_1 x))) ++ [x.getD (↑x_1 : Int).toNat (0 : Int)] ++ List.drop (↑x_2 :
  Int).toNat (List.take (↑(upOf (List.take x_1 x)).length : Int).toNat (upOf (List.take x_1 x)))) ∧ ((SV.val (A := AA) (Value.slice none (0 : Nat) (0 :
  Nat)) = SV.val (A := AA) (Value.slice none (0 : Nat) (0 : Nat)) ∧ True) ∧ True) ∧ True) ∧ (List.drop (Int.toNat (0 : Int)) (List.take (↑x_2 :
  Int).toNat (upOf (List.take x_1 x)))).length * (8 : Nat) ≤ (140737488355328 : Nat) ∧ (List.drop (Int.toNat (0 : Int)) (List.take (↑x_2 : Int).toNat
  (upOf (List.take x_1 x)))).length ≤ (1152921504606846976 : Nat) ∧ ((List.drop (Int.toNat (0 : Int)) (List.take (↑x_2 : Int).toNat (upOf (List.take x_1
  x)))).length + [x.getD (↑x_1 : Int).toNat (0 : Int)].length) * (8 : Nat) ≤ (140737488355328 : Nat) ∧ (List.drop (Int.toNat (0 : Int)) (List.take (↑x_2
  : Int).toNat (upOf (List.take x_1 x)))).length + [x.getD (↑x_1 : Int).toNat (0 : Int)].length ≤ (1152921504606846976 : Nat) ∧ ((List.drop (Int.toNat (0
  : Int)) (List.take (↑x_2 : Int).toNat (upOf (List.take x_1 x))) ++ [x.getD (↑x_1 : Int).toNat (0 : Int)]).length + (List.drop (↑x_2 : Int).toNat
  (List.take (↑(upOf (List.take x_1 x)).length : Int).toNat (upOf (List.take x_1 x)))).length) * (8 : Nat) ≤ (140737488355328 : Nat) ∧ (List.drop
  (Int.toNat (0 : Int)) (List.take (↑x_2 : Int).toNat (upOf (List.take x_1 x))) ++ [x.getD (↑x_1 : Int).toNat (0 : Int)]).length + (List.drop (↑x_2 :
  Int).toNat (List.take (↑(upOf (List.take x_1 x)).length : Int).toNat (upOf (List.take x_1 x)))).length ≤ (1152921504606846976 : Nat) ∧ inI64 ((↑x_1 :
  Int) + (1 : Int)) ∧ ∃ y, Nat.le y x.length ∧ x.length - y < x.length - x_1 ∧ ((↑y : Int) = (↑x_1 : Int) + (1 : Int) ∧ upOf (List.take y x) = List.drop
  (Int.toNat (0 : Int)) (List.take (↑x_2 : Int).toNat (upOf (List.take x_1 x))) ++ [x.getD (↑x_1 : Int).toNat (0 : Int)] ++ List.drop (↑x_2 : Int).toNat
  (List.take (↑(upOf (List.take x_1 x)).length : Int).toNat (upOf (List.take x_1 x)))) ∧ ((SV.val (A := AA) (Value.slice none (0 : Nat) (0 : Nat)) =
  SV.val (A := AA) (Value.slice none (0 : Nat) (0 : Nat)) ∧ True) ∧ True) ∧ True) ∧ (0 : Int) ≤ (↑x_2 : Int) ∧ (↑x_2 : Int) ≤ (↑(upOf (List.take x_1
  x)).length : Int) ∧ (↑(upOf (List.take x_1 x)).length : Int) ≤ (↑(upOf (List.take x_1 x)).length : Int) ∧ ((List.drop (Int.toNat (0 : Int)) (List.take
  (↑x_2 : Int).toNat (upOf (List.take x_1 x)))).length * (8 : Nat) ≤ (140737488355328 : Nat) ∧ (List.drop (Int.toNat (0 : Int)) (List.take (↑x_2 :
  Int).toNat (upOf (List.take x_1 x)))).length ≤ (1152921504606846976 : Nat) ∧ (↑x_1 : Int).toNat < x.length ∧ ((List.drop (Int.toNat (0 : Int))
  (List.take (↑x_2 : Int).toNat (upOf (List.take x_1 x)))).length + [x.getD (↑x_1 : Int).toNat (0 : Int)].length) * (8 : Nat) ≤ (140737488355328 : Nat) ∧
  (List.drop (Int.toNat (0 : Int)) (List.take (↑x_2 : Int).toNat (upOf (List.take x_1 x)))).length + [x.getD (↑x_1 : Int).toNat (0 : Int)].length ≤
  (1152921504606846976 : Nat) ∧ ((List.drop (Int.toNat (0 : Int)) (List.take (↑x_2 : Int).toNat (upOf (List.take x_1 x))) ++ [x.getD (↑x_1 : Int).toNat
  (0 : Int)]).length + (List.drop (↑x_2 : Int).toNat (List.take (↑(upOf (List.take x_1 x)).length : Int).toNat (upOf (List.take x_1 x)))).length) * (8 :
  Nat) ≤ (140737488355328 : Nat) ∧ (List.drop (Int.toNat (0 : Int)) (List.take (↑x_2 : Int).toNat (upOf (List.take x_1 x))) ++ [x.getD (↑x_1 : Int).toNat
  (0 : Int)]).length + (List.drop (↑x_2 : Int).toNat (List.take (↑(upOf (List.take x_1 x)).length : Int).toNat (upOf (List.take x_1 x)))).length ≤
  (1152921504606846976 : Nat) ∧ inI64 ((↑x_1 : Int) + (1 : Int)) ∧ ∃ y, Nat.le y x.length ∧ x.length - y < x.length - x_1 ∧ ((↑y : Int) = (↑x_1 : Int) +
  (1 : Int) ∧ upOf (List.take y x) = List.drop (Int.toNat (0 : Int)) (List.take (↑x_2 : Int).toNat (upOf (List.take x_1 x))) ++ [x.getD (↑x_1 :
  Int).toNat (0 : Int)] ++ List.drop (↑x_2 : Int).toNat (List.take (↑(upOf (List.take x_1 x)).length : Int).toNat (upOf (List.take x_1 x)))) ∧ ((SV.val
  (A := AA) (Value.slice none (0 : Nat) (0 : Nat)) = SV.val (A := AA) (Value.slice none (0 : Nat) (0 : Nat)) ∧ True) ∧ True) ∧ True) ∧ (↑x_1 : Int).toNat
  < x.length ∧ ((List.drop (Int.toNat (0 : Int)) (List.take (↑x_2 : Int).toNat (upOf (List.take x_1 x)))).length * (8 : Nat) ≤ (140737488355328 : Nat) ∧
  (List.drop (Int.toNat (0 : Int)) (List.take (↑x_2 : Int).toNat (upOf (List.take x_1 x)))).length ≤ (1152921504606846976 : Nat) ∧ ((List.drop (Int.toNat
  (0 : Int)) (List.take (↑x_2 : Int).toNat (upOf (List.take x_1 x)))).length + [x.getD (↑x_1 : Int).toNat (0 : Int)].length) * (8 : Nat) ≤
  (140737488355328 : Nat) ∧ (List.drop (Int.toNat (0 : Int)) (List.take (↑x_2 : Int).toNat (upOf (List.take x_1 x)))).length + [x.getD (↑x_1 : Int).toNat
  (0 : Int)].length ≤ (1152921504606846976 : Nat) ∧ ((List.drop (Int.toNat (0 : Int)) (List.take (↑x_2 : Int).toNat (upOf (List.take x_1 x))) ++ [x.getD
  (↑x_1 : Int).toNat (0 : Int)]).length + (List.drop (↑x_2 : Int).toNat (List.take (↑(upOf (List.take x_1 x)).length : Int).toNat (upOf (List.take x_1
  x)))).length) * (8 : Nat) ≤ (140737488355328 : Nat) ∧ (List.drop (Int.toNat (0 : Int)) (List.take (↑x_2 : Int).toNat (upOf (List.take x_1 x))) ++
  [x.getD (↑x_1 : Int).toNat (0 : Int)]).length + (List.drop (↑x_2 : Int).toNat (List.take (↑(upOf (List.take x_1 x)).length : Int).toNat (upOf
  (List.take x_1 x)))).length ≤ (1152921504606846976 : Nat) ∧ inI64 ((↑x_1 : Int) + (1 : Int)) ∧ ∃ y, Nat.le y x.length ∧ x.length - y < x.length - x_1 ∧
  ((↑y : Int) = (↑x_1 : Int) + (1 : Int) ∧ upOf (List.take y x) = List.drop (Int.toNat (0 : Int)) (List.take (↑x_2 : Int).toNat (upOf (List.take x_1 x)))
  ++ [x.getD (↑x_1 : Int).toNat (0 : Int)] ++ List.drop (↑x_2 : Int).toNat (List.take (↑(upOf (List.take x_1 x)).length : Int).toNat (upOf (List.take x_1
  x)))) ∧ ((SV.val (A := AA) (Value.slice none (0 : Nat) (0 : Nat)) = SV.val (A := AA) (Value.slice none (0 : Nat) (0 : Nat)) ∧ True) ∧ True) ∧ True) ∧
  (List.drop (Int.toNat (0 : Int)) (List.take (↑x_2 : Int).toNat (upOf (List.take x_1 x)))).length * (8 : Nat) ≤ (140737488355328 : Nat) ∧ (List.drop
  (Int.toNat (0 : Int)) (List.take (↑x_2 : Int).toNat (upOf (List.take x_1 x)))).length ≤ (1152921504606846976 : Nat) ∧ ((List.drop (Int.toNat (0 : Int))
  (List.take (↑x_2 : Int).toNat (upOf (List.take x_1 x)))).length + [x.getD (↑x_1 : Int).toNat (0 : Int)].length) * (8 : Nat) ≤ (140737488355328 : Nat) ∧
  (List.drop (Int.toNat (0 : Int)) (List.take (↑x_2 : Int).toNat (upOf (List.take x_1 x)))).length + [x.getD (↑x_1 : Int).toNat (0 : Int)].length ≤
  (1152921504606846976 : Nat) ∧ ((List.drop (Int.toNat (0 : Int)) (List.take (↑x_2 : Int).toNat (upOf (List.take x_1 x))) ++ [x.getD (↑x_1 : Int).toNat
  (0 : Int)]).length + (List.drop (↑x_2 : Int).toNat (List.take (↑(upOf (List.take x_1 x)).length : Int).toNat (upOf (List.take x_1 x)))).length) * (8 :
  Nat) ≤ (140737488355328 : Nat) ∧ (List.drop (Int.toNat (0 : Int)) (List.take (↑x_2 : Int).toNat (upOf (List.take x_1 x))) ++ [x.getD (↑x_1 : Int).toNat
  (0 : Int)]).length + (List.drop (↑x_2 : Int).toNat (List.take (↑(upOf (List.take x_1 x)).length : Int).toNat (upOf (List.take x_1 x)))).length ≤
  (1152921504606846976 : Nat) ∧ inI64 ((↑x_1 : Int) + (1 : Int)) ∧ ∃ y, Nat.le y x.length ∧ x.length - y < x.length - x_1 ∧ ((↑y : Int) = (↑x_1 : Int) +
  (1 : Int) ∧ upOf (List.take y x) = List.drop (Int.toNat (0 : Int)) (List.take (↑x_2 : Int).toNat (upOf (List.take x_1 x))) ++ [x.getD (↑x_1 :
  Int).toNat (0 : Int)] ++ List.drop (↑x_2 : Int).toNat (List.take (↑(upOf (List.take x_1 x)).length : Int).toNat (upOf (List.take x_1 x)))) ∧ ((SV.val
  (A := AA) (Value.slice none (0 : Nat) (0 : Nat)) = SV.val (A := AA) (Value.slice none (0 : Nat) (0 : Nat)) ∧ True) ∧ True) ∧ True) ∧ ((↑x_1 :
  Int).toNat < x.length ∧ ((0 : Int) ≤ (0 : Int) ∧ (0 : Int) ≤ (↑x_2 : Int) ∧ (↑x_2 : Int) ≤ (↑(upOf (List.take x_1 x)).length : Int) ∧ ((List.drop
  (Int.toNat (0 : Int)) (List.take (↑x_2 : Int).toNat (upOf (List.take x_1 x)))).length * (8 : Nat) ≤ (140737488355328 : Nat) ∧ (List.drop (Int.toNat (0
  : Int)) (List.take (↑x_2 : Int).toNat (upOf (List.take x_1 x)))).length ≤ (1152921504606846976 : Nat) ∧ ((((List.drop (Int.toNat (0 : Int)) (List.take
  (↑x_2 : Int).toNat (upOf (List.take x_1 x)))).length + [x.getD (↑x_1 : Int).toNat (0 : Int)].length) * (8 : Nat) ≤ (140737488355328 : Nat) ∧ (List.drop
  (Int.toNat (0 : Int)) (List.take (↑x_2 : Int).toNat (upOf (List.take x_1 x)))).length + [x.getD (↑x_1 : Int).toNat (0 : Int)].length ≤
  (1152921504606846976 : Nat) ∧ (0 : Int) ≤ (↑x_2 : Int) ∧ (↑x_2 : Int) ≤ (↑(upOf (List.take x_1 x)).length : Int) ∧ (↑(upOf (List.take x_1 x)).length :
  Int) ≤ (↑(upOf (List.take x_1 x)).length : Int) ∧ ((List.drop (Int.toNat (0 : Int)) (List.take (↑x_2 : Int).toNat (upOf (List.take x_1 x))) ++ [x.getD
  (↑x_1 : Int).toNat (0 : Int)]).length + (List.drop (↑x_2 : Int).toNat (List.take (↑(upOf (List.take x_1 x)).length : Int).toNat (upOf (List.take x_1
  x)))).length) * (8 : Nat) ≤ (140737488355328 : Nat) ∧ (List.drop (Int.toNat (0 : Int)) (List.take (↑x_2 : Int).toNat (upOf (List.take x_1 x))) ++
  [x.getD (↑x_1 : Int).toNat (0 : Int)]).length + (List.drop (↑x_2 : Int).toNat (List.take (↑(upOf (List.take x_1 x)).length : Int).toNat (upOf
  (List.take x_1 x)))).length ≤ (1152921504606846976 : Nat) ∧ inI64 ((↑x_1 : Int) + (1 : Int)) ∧ ∃ y, Nat.le y x.length ∧ x.length - y < x.length - x_1 ∧
  ((↑y : Int) = (↑x_1 : Int) + (1 : Int) ∧ upOf (List.take y x) = List.drop (Int.toNat (0 : Int)) (List.take (↑x_2 : Int).toNat (upOf (List.take x_1 x)))
  ++ [x.getD (↑x_1 : Int).toNat (0 : Int)] ++ List.drop (↑x_2 : Int).toNat (List.take (↑(upOf (List.take x_1 x)).length : Int).toNat (upOf (List.take x_1
  x)))) ∧ ((SV.val (A := AA) (Value.slice none (0 : Nat) (0 : Nat)) = SV.val (A := AA) (Value.slice none (0 : Nat) (0 : Nat)) ∧ True) ∧ True) ∧ True) ∧
  (0 : Int) ≤ (↑x_2 : Int) ∧ (↑x_2 : Int) ≤ (↑(upOf (List.take x_1 x)).length : Int) ∧ (↑(upOf (List.take x_1 x)).length : Int) ≤ (↑(upOf (List.take x_1
  x)).length : Int) ∧ ((List.drop (Int.toNat (0 : Int)) (List.take (↑x_2 : Int).toNat (upOf (List.take x_1 x)))).length + [x.getD (↑x_1 : Int).toNat (0 :
  Int)].length) * (8 : Nat) ≤ (140737488355328 : Nat) ∧ (List.drop (Int.toNat (0 : Int)) (List.take (↑x_2 : Int).toNat (upOf (List.take x_1 x)))).length
  + [x.getD (↑x_1 : Int).toNat (0 : Int)].length ≤ (1152921504606846976 : Nat) ∧ ((List.drop (Int.toNat (0 : Int)) (List.take (↑x_2 : Int).toNat (upOf
  (List.take x_1 x))) ++ [x.getD (↑x_1 : Int).toNat (0 : Int)]).length + (List.drop (↑x_2 : Int).toNat (List.take (↑(upOf (List.take x_1 x)).length :
  Int).toNat (upOf (List.take x_1 x)))).length) * (8 : Nat) ≤ (140737488355328 : Nat) ∧ (List.drop (Int.toNat (0 : Int)) (List.take (↑x_2 : Int).toNat
  (upOf (List.take x_1 x))) ++ [x.getD (↑x_1 : Int).toNat (0 : Int)]).length + (List.drop (↑x_2 : Int).toNat (List.take (↑(upOf (List.take x_1 x)).length
  : Int).toNat (upOf (List.take x_1 x)))).length ≤ (1152921504606846976 : Nat) ∧ inI64 ((↑x_1 : Int) + (1 : Int)) ∧ ∃ y, Nat.le y x.length ∧ x.length - y
  < x.length - x_1 ∧ ((↑y : Int) = (↑x_1 : Int) + (1 : Int) ∧ upOf (List.take y x) = List.drop (Int.toNat (0 : Int)) (List.take (↑x_2 : Int).toNat (upOf
  (List.take x_1 x))) ++ [x.getD (↑x_1 : Int).toNat (0 : Int)] ++ List.drop (↑x_2 : Int).toNat (List.take (↑(upOf (List.take x_1 x)).length : Int).toNat
  (upOf (List.take x_1 x)))) ∧ ((SV.val (A := AA) (Value.slice none (0 : Nat) (0 : Nat)) = SV.val (A := AA) (Value.slice none (0 : Nat) (0 : Nat)) ∧
  True) ∧ True) ∧ True) ∧ (0 : Int) ≤ (↑x_2 : Int) ∧ (↑x_2 : Int) ≤ (↑(upOf (List.take x_1 x)).length : Int) ∧ (↑(upOf (List.take x_1 x)).length : Int) ≤
  (↑(upOf (List.take x_1 x)).length : Int) ∧ ((List.drop (Int.toNat (0 : Int)) (List.take (↑x_2 : Int).toNat (upOf (List.take x_1 x)))).length + [x.getD
  (↑x_1 : Int).toNat (0 : Int)].length) * (8 : Nat) ≤ (140737488355328 : Nat) ∧ (List.drop (Int.toNat (0 : Int)) (List.take (↑x_2 : Int).toNat (upOf
  (List.take x_1 x)))).length + [x.getD (↑x_1 : Int).toNat (0 : Int)].length ≤ (1152921504606846976 : Nat) ∧ ((List.drop (Int.toNat (0 : Int)) (List.take
  (↑x_2 : Int).toNat (upOf (List.take x_1 x))) ++ [x.getD (↑x_1 : Int).toNat (0 : Int)]).length + (List.drop (↑x_2 : Int).toNat (List.take (↑(upOf
  (List.take x_1 x)).length : Int).toNat (upOf (List.take x_1 x)))).length) * (8 : Nat) ≤ (140737488355328 : Nat) ∧ (List.drop (Int.toNat (0 : Int))
  (List.take (↑x_2 : Int).toNat (upOf (List.take x_1 x))) ++ [x.getD (↑x_1 : Int).toNat (0 : Int)]).length + (List.drop (↑x_2 : Int).toNat (List.take
  (↑(upOf (List.take x_1 x)).length : Int).toNat (upOf (List.take x_1 x)))).length ≤ (1152921504606846976 : Nat) ∧ inI64 ((↑x_1 : Int) + (1 : Int)) ∧ ∃
  y, Nat.le y x.length ∧ x.length - y < x.length - x_1 ∧ ((↑y : Int) = (↑x_1 : Int) + (1 : Int) ∧ upOf (List.take y x) = List.drop (Int.toNat (0 : Int))
  (List.take (↑x_2 : Int).toNat (upOf (List.take x_1 x))) ++ [x.getD (↑x_1 : Int).toNat (0 : Int)] ++ List.drop (↑x_2 : Int).toNat (List.take (↑(upOf
  (List.take x_1 x)).length : Int).toNat (upOf (List.take x_1 x)))) ∧ ((SV.val (A := AA) (Value.slice none (0 : Nat) (0 : Nat)) = SV.val (A := AA)
  (Value.slice none (0 : Nat) (0 : Nat)) ∧ True) ∧ True) ∧ True) ∧ (((List.drop (Int.toNat (0 : Int)) (List.take (↑x_2 : Int).toNat (upOf (List.take x_1
  x)))).length * (8 : Nat) ≤ (140737488355328 : Nat) ∧ (List.drop (Int.toNat (0 : Int)) (List.take (↑x_2 : Int).toNat (upOf (List.take x_1 x)))).length ≤
  (1152921504606846976 : Nat) ∧ (((List.drop (Int.toNat (0 : Int)) (List.take (↑x_2 : Int).toNat (upOf (List.take x_1 x)))).length + [x.getD (↑x_1 :
  Int).toNat (0 : Int)].length) * (8 : Nat) ≤ (140737488355328 : Nat) ∧ (List.drop (Int.toNat (0 : Int)) (List.take (↑x_2 : Int).toNat (upOf (List.take
  x_1 x)))).length + [x.getD (↑x_1 : Int).toNat (0 : Int)].length ≤ (1152921504606846976 : Nat) ∧ (0 : Int) ≤ (↑x_2 : Int) ∧ (↑x_2 : Int) ≤ (↑(upOf
  (List.take x_1 x)).length : Int) ∧ (↑(upOf (List.take x_1 x)).length : Int) ≤ (↑(upOf (List.take x_1 x)).length : Int) ∧ ((List.drop (Int.toNat (0 :
  Int)) (List.take (↑x_2 : Int).toNat (upOf (List.take x_1 x))) ++ [x.getD (↑x_1 : Int).toNat (0 : Int)]).length + (List.drop (↑x_2 : Int).toNat
  (List.take (↑(upOf (List.take x_1 x)).length : Int).toNat (upOf (List.take x_1 x)))).length) * (8 : Nat) ≤ (140737488355328 : Nat) ∧ (List.drop
  (Int.toNat (0 : Int)) (List.take (↑x_2 : Int).toNat (upOf (List.take x_1 x))) ++ [x.getD (↑x_1 : Int).toNat (0 : Int)]).length + (List.drop (↑x_2 :
  Int).toNat (List.take (↑(upOf (List.take x_1 x)).length : Int).toNat (upOf (List.take x_1 x)))).length ≤ (1152921504606846976 : Nat) ∧ inI64 ((↑x_1 :
  Int) + (1 : Int)) ∧ ∃ y, Nat.le y x.length ∧ x.length - y < x.length - x_1 ∧ ((↑y : Int) = (↑x_1 : Int) + (1 : Int) ∧ upOf (List.take y x) = List.drop
  (Int.toNat (0 : Int)) (List.take (↑x_2 : Int).toNat (upOf (List.take x_1 x))) ++ [x.getD (↑x_1 : Int).toNat (0 : Int)] ++ List.drop (↑x_2 : Int).toNat
  (List.take (↑(upOf (List.take x_1 x)).length : Int).toNat (upOf (List.take x_1 x)))) ∧ ((SV.val (A := AA) (Value.slice none (0 : Nat) (0 : Nat)) =
  SV.val (A := AA) (Value.slice none (0 : Nat) (0 : Nat)) ∧ True) ∧ True) ∧ True) ∧ (0 : Int) ≤ (↑x_2 : Int) ∧ (↑x_2 : Int) ≤ (↑(upOf (List.take x_1
  x)).length : Int) ∧ (↑(upOf (List.take x_1 x)).length : Int) ≤ (↑(upOf (List.take x_1 x)).length : Int) ∧ ((List.drop (Int.toNat (0 : Int)) (List.take
  (↑x_2 : Int).toNat (upOf (List.take x_1 x)))).length + [x.getD (↑x_1 : Int).toNat (0 : Int)].length) * (8 : Nat) ≤ (140737488355328 : Nat) ∧ (List.drop
  (Int.toNat (0 : Int)) (List.take (↑x_2 : Int).toNat (upOf (List.take x_1 x)))).length + [x.getD (↑x_1 : Int).toNat (0 : Int)].length ≤
  (1152921504606846976 : Nat) ∧ ((List.drop (Int.toNat (0 : Int)) (List.take (↑x_2 : Int).toNat (upOf (List.take x_1 x))) ++ [x.getD (↑x_1 : Int).toNat
  (0 : Int)]).length + (List.drop (↑x_2 : Int).toNat (List.take (↑(upOf (List.take x_1 x)).length : Int).toNat (upOf (List.take x_1 x)))).length) * (8 :
  Nat) ≤ (140737488355328 : Nat) ∧ (List.drop (Int.toNat (0 : Int)) (List.take (↑x_2 : Int).toNat (upOf (List.take x_1 x))) ++ [x.getD (↑x_1 : Int).toNat
  (0 : Int)]).length + (List.drop (↑x_2 : Int).toNat (List.take (↑(upOf (List.take x_1 x)).length : Int).toNat (upOf (List.take x_1 x)))).length ≤
  (1152921504606846976 : Nat) ∧ inI64 ((↑x_1 : Int) + (1 : Int)) ∧ ∃ y, Nat.le y x.length ∧ x.length - y < x.length - x_1 ∧ ((↑y : Int) = (↑x_1 : Int) +
  (1 : Int) ∧ upOf (List.take y x) = List.drop (Int.toNat (0 : Int)) (List.take (↑x_2 : Int).toNat (upOf (List.take x_1 x))) ++ [x.getD (↑x_1 :
  Int).toNat (0 : Int)] ++ List.drop (↑x_2 : Int).toNat (List.take (↑(upOf (List.take x_1 x)).length : Int).toNat (upOf (List.take x_1 x)))) ∧ ((SV.val
  (A := AA) (Value.slice none (0 : Nat) (0 : Nat)) = SV.val (A := AA) (Value.slice none (0 : Nat) (0 : Nat)) ∧ True) ∧ True) ∧ True) ∧ (0 : Int) ≤ (↑x_2
  : Int) ∧ (↑x_2 : Int) ≤ (↑(upOf (List.take x_1 x)).length : Int) ∧ (↑(upOf (List.take x_1 x)).length : Int) ≤ (↑(upOf (List.take x_1 x)).length : Int)
  ∧ (List.drop (Int.toNat (0 : Int)) (List.take (↑x_2 : Int).toNat (upOf (List.take x_1 x)))).length * (8 : Nat) ≤ (140737488355328 : Nat) ∧ (List.drop
  (Int.toNat (0 : Int)) (List.take (↑x_2 : Int).toNat (upOf (List.take x_1 x)))).length ≤ (1152921504606846976 : Nat) ∧ ((List.drop (Int.toNat (0 : Int))
  (List.take (↑x_2 : Int).toNat (upOf (List.take x_1 x)))).length + [x.getD (↑x_1 : Int).toNat (0 : Int)].length) * (8 : Nat) ≤ (140737488355328 : Nat) ∧
  (List.drop (Int.toNat (0 : Int)) (List.take (↑x_2 : Int).toNat (upOf (List.take x_1 x)))).length + [x.getD (↑x_1 : Int).toNat (0 : Int)].length ≤
  (1152921504606846976 : Nat) ∧ ((List.drop (Int.toNat (0 : Int)) (List.take (↑x_2 : Int).toNat (upOf (List.take x_1 x))) ++ [x.getD (↑x_1 : Int).toNat
  (0 : Int)]).length + (List.drop (↑x_2 : Int).toNat (List.take (↑(upOf (List.take x_1 x)).length : Int).toNat (upOf (List.take x_1 x)))).length) * (8 :
  Nat) ≤ (140737488355328 : Nat) ∧ (List.drop (Int.toNat (0 : Int)) (List.take (↑x_2 : Int).toNat (upOf (List.take x_1 x))) ++ [x.getD (↑x_1 : Int).toNat
  (0 : Int)]).length + (List.drop (↑x_2 : Int).toNat (List.take (↑(upOf (List.take x_1 x)).length : Int).toNat (upOf (List.take x_1 x)))).length ≤
  (1152921504606846976 : Nat) ∧ inI64 ((↑x_1 : Int) + (1 : Int)) ∧ ∃ y, Nat.le y x.length ∧ x.length - y < x.length - x_1 ∧ ((↑y : Int) = (↑x_1 : Int) +
  (1 : Int) ∧ upOf (List.take y x) = List.drop (Int.toNat (0 : Int)) (List.take (↑x_2 : Int).toNat (upOf (List.take x_1 x))) ++ [x.getD (↑x_1 :
  Int).toNat (0 : Int)] ++ List.drop (↑x_2 : Int).toNat (List.take (↑(upOf (List.take x_1 x)).length : Int).toNat (upOf (List.take x_1 x)))) ∧ ((SV.val
  (A := AA) (Value.slice none (0 : Nat) (0 : Nat)) = SV.val (A := AA) (Value.slice none (0 : Nat) (0 : Nat)) ∧ True) ∧ True) ∧ True) ∧ (0 : Int) ≤ (↑x_2
  : Int) ∧ (↑x_2 : Int) ≤ (↑(upOf (List.take x_1 x)).length : Int) ∧ (↑(upOf (List.take x_1 x)).length : Int) ≤ (↑(upOf (List.take x_1 x)).length : Int)
  ∧ ((List.drop (Int.toNat (0 : Int)) (List.take (↑x_2 : Int).toNat (upOf (List.take x_1 x)))).length * (8 : Nat) ≤ (140737488355328 : Nat) ∧ (List.drop
  (Int.toNat (0 : Int)) (List.take (↑x_2 : Int).toNat (upOf (List.take x_1 x)))).length ≤ (1152921504606846976 : Nat) ∧ ((List.drop (Int.toNat (0 : Int))
  (List.take (↑x_2 : Int).toNat (upOf (List.take x_1 x)))).length + [x.getD (↑x_1 : Int).toNat (0 : Int)].length) * (8 : Nat) ≤ (140737488355328 : Nat) ∧
  (List.drop (Int.toNat (0 : Int)) (List.take (↑x_2 : Int).toNat (upOf (List.take x_1 x)))).length + [x.getD (↑x_1 : Int).toNat (0 : Int)].length ≤
  (1152921504606846976 : Nat) ∧ ((List.drop (Int.toNat (0 : Int)) (List.take (↑x_2 : Int).toNat (upOf (List.take x_1 x))) ++ [x.getD (↑x_1 : Int).toNat
  (0 : Int)]).length + (List.drop (↑x_2 : Int).toNat (List.take (↑(upOf (List.take x_1 x)).length : Int).toNat (upOf (List.take x_1 x)))).length) * (8 :
  Nat) ≤ (140737488355328 : Nat) ∧ (List.drop (Int.toNat (0 : Int)) (List.take (↑x_2 : Int).toNat (upOf (List.take x_1 x))) ++ [x.getD (↑x_1 : Int).toNat
  (0 : Int)]).length + (List.drop (↑x_2 : Int).toNat (List.take (↑(upOf (List.take x_1 x)).length : Int).toNat (upOf (List.take x_1 x)))).length ≤
  (1152921504606846976 : Nat) ∧ inI64 ((↑x_1 : Int) + (1 : Int)) ∧ ∃ y, Nat.le y x.length ∧ x.length - y < x.length - x_1 ∧ ((↑y : Int) = (↑x_1 : Int) +
  (1 : Int) ∧ upOf (List.take y x) = List.drop (Int.toNat (0 : Int)) (List.take (↑x_2 : Int).toNat (upOf (List.take x_1 x))) ++ [x.getD (↑x_1 :
  Int).toNat (0 : Int)] ++ List.drop (↑x_2 : Int).toNat (List.take (↑(upOf (List.take x_1 x)).length : Int).toNat (upOf (List.take x_1 x)))) ∧ ((SV.val
  (A := AA) (Value.slice none (0 : Nat) (0 : Nat)) = SV.val (A := AA) (Value.slice none (0 : Nat) (0 : Nat)) ∧ True) ∧ True) ∧ True) ∧ (List.drop
  (Int.toNat (0 : Int)) (List.take (↑x_2 : Int).toNat (upOf (List.take x_1 x)))).length * (8 : Nat) ≤ (140737488355328 : Nat) ∧ (List.drop (Int.toNat (0
  : Int)) (List.take (↑x_2 : Int).toNat (upOf (List.take x_1 x)))).length ≤ (1152921504606846976 : Nat) ∧ ((List.drop (Int.toNat (0 : Int)) (List.take
  (↑x_2 : Int).toNat (upOf (List.take x_1 x)))).length + [x.getD (↑x_1 : Int).toNat (0 : Int)].length) * (8 : Nat) ≤ (140737488355328 : Nat) ∧ (List.drop
  (Int.toNat (0 : Int)) (List.take (↑x_2 : Int).toNat (upOf (List.take x_1 x)))).length + [x.getD (↑x_1 : Int).toNat (0 : Int)].length ≤
  (1152921504606846976 : Nat) ∧ ((List.drop (Int.toNat (0 : Int)) (List.take (↑x_2 : Int).toNat (upOf (List.take x_1 x))) ++ [x.getD (↑x_1 : Int).toNat
  (0 : Int)]).length + (List.drop (↑x_2 : Int).toNat (List.take (↑(upOf (List.take x_1 x)).length : Int).toNat (upOf (List.take x_1 x)))).length) * (8 :
  Nat) ≤ (140737488355328 : Nat) ∧ (List.drop (Int.toNat (0 : Int)) (List.take (↑x_2 : Int).toNat (upOf (List.take x_1 x))) ++ [x.getD (↑x_1 : Int).toNat
  (0 : Int)]).length + (List.drop (↑x_2 : Int).toNat (List.take (↑(upOf (List.take x_1 x)).length : Int).toNat (upOf (List.take x_1 x)))).length ≤
  (1152921504606846976 : Nat) ∧ inI64 ((↑x_1 : Int) + (1 : Int)) ∧ ∃ y, Nat.le y x.length ∧ x.length - y < x.length - x_1 ∧ ((↑y : Int) = (↑x_1 : Int) +
  (1 : Int) ∧ upOf (List.take y x) = List.drop (Int.toNat (0 : Int)) (List.take (↑x_2 : Int).toNat (upOf (List.take x_1 x))) ++ [x.getD (↑x_1 :
  Int).toNat (0 : Int)] ++ List.drop (↑x_2 : Int).toNat (List.take (↑(upOf (List.take x_1 x)).length : Int).toNat (upOf (List.take x_1 x)))) ∧ ((SV.val
  (A := AA) (Value.slice none (0 : Nat) (0 : Nat)) = SV.val (A := AA) (Value.slice none (0 : Nat) (0 : Nat)) ∧ True) ∧ True) ∧ True) ∧ (((0 : Int) ≤ (0 :
  Int) ∧ (0 : Int) ≤ (↑x_2 : Int) ∧ (↑x_2 : Int) ≤ (↑(upOf (List.take x_1 x)).length : Int) ∧ ((List.drop (Int.toNat (0 : Int)) (List.take (↑x_2 :
  Int).toNat (upOf (List.take x_1 x)))).length * (8 : Nat) ≤ (140737488355328 : Nat) ∧ (List.drop (Int.toNat (0 : Int)) (List.take (↑x_2 : Int).toNat
  (upOf (List.take x_1 x)))).length ≤ (1152921504606846976 : Nat) ∧ (((List.drop (Int.toNat (0 : Int)) (List.take (↑x_2 : Int).toNat (upOf (List.take x_1
  x)))).length + [x.getD (↑x_1 : Int).toNat (0 : Int)].length) * (8 : Nat) ≤ (140737488355328 : Nat) ∧ (List.drop (Int.toNat (0 : Int)) (List.take (↑x_2
  : Int).toNat (upOf (List.take x_1 x)))).length + [x.getD (↑x_1 : Int).toNat (0 : Int)].length ≤ (1152921504606846976 : Nat) ∧ (0 : Int) ≤ (↑x_2 : Int)
  ∧ (↑x_2 : Int) ≤ (↑(upOf (List.take x_1 x)).length : Int) ∧ (↑(upOf (List.take x_1 x)).length : Int) ≤ (↑(upOf (List.take x_1 x)).length : Int) ∧
  ((List.drop (Int.toNat (0 : Int)) (List.take (↑x_2 : Int).toNat (upOf (List.take x_1 x))) ++ [x.getD (↑x_1 : Int).toNat (0 : Int)]).length + (List.drop
  (↑x_2 : Int).toNat (List.take (↑(upOf (List.take x_1 x)).length : Int).toNat (upOf (List.take x_1 x)))).length) * (8 : Nat) ≤ (140737488355328 : Nat) ∧
  (List.drop (Int.toNat (0 : Int)) (List.take (↑x_2 : Int).toNat (upOf (List.take x_1 x))) ++ [x.getD (↑x_1 : Int).toNat (0 : Int)]).length + (List.drop
  (↑x_2 : Int).toNat (List.take (↑(upOf (List.take x_1 x)).length : Int).toNat (upOf (List.take x_1 x)))).length ≤ (1152921504606846976 : Nat) ∧ inI64
  ((↑x_1 : Int) + (1 : Int)) ∧ ∃ y, Nat.le y x.length ∧ x.length - y < x.length - x_1 ∧ ((↑y : Int) = (↑x_1 : Int) + (1 : Int) ∧ upOf (List.take y x) =
  List.drop (Int.toNat (0 : Int)) (List.take (↑x_2 : Int).toNat (upOf (List.take x_1 x))) ++ [x.getD (↑x_1 : Int).toNat (0 : Int)] ++ List.drop (↑x_2 :
  Int).toNat (List.take (↑(upOf (List.take x_1 x)).length : Int).toNat (upOf (List.take x_1 x)))) ∧ ((SV.val (A := AA) (Value.slice none (0 : Nat) (0 :
  Nat)) = SV.val (A := AA) (Value.slice none (0 : Nat) (0 : Nat)) ∧ True) ∧ True) ∧ True) ∧ (0 : Int) ≤ (↑x_2 : Int) ∧ (↑x_2 : Int) ≤ (↑(upOf (List.take
  x_1 x)).length : Int) ∧ (↑(upOf (List.take x_1 x)).length : Int) ≤ (↑(upOf (List.take x_1 x)).length : Int) ∧ ((List.drop (Int.toNat (0 : Int))
  (List.take (↑x_2 : Int).toNat (upOf (List.take x_1 x)))).length + [x.getD (↑x_1 : Int).toNat (0 : Int)].length) * (8 : Nat) ≤ (140737488355328 : Nat) ∧
  (List.drop (Int.toNat (0 : Int)) (List.take (↑x_2 : Int).toNat (upOf (List.take x_1 x)))).length + [x.getD (↑x_1 : Int).toNat (0 : Int)].length ≤
  (1152921504606846976 : Nat) ∧ ((List.drop (Int.toNat (0 : Int)) (List.take (↑x_2 : Int).toNat (upOf (List.take x_1 x))) ++ [x.getD (↑x_1 : Int).toNat
  (0 : Int)]).length + (List.drop (↑x_2 : Int).toNat (List.take (↑(upOf (List.take x_1 x)).length : Int).toNat (upOf (List.take x_1 x)))).length) * (8 :
  Nat) ≤ (140737488355328 : Nat) ∧ (List.drop (Int.toNat (0 : Int)) (List.take (↑x_2 : Int).toNat (upOf (List.take x_1 x))) ++ [x.getD (↑x_1 : Int).toNat
  (0 : Int)]).length + (List.drop (↑x_2 : Int).toNat (List.take (↑(upOf (List.take x_1 x)).length : Int).toNat (upOf (List.take x_1 x)))).length ≤
  (1152921504606846976 : Nat) ∧ inI64 ((↑x_1 : Int) + (1 : Int)) ∧ ∃ y, Nat.le y x.length ∧ x.length - y < x.length - x_1 ∧ ((↑y : Int) = (↑x_1 : Int) +
  (1 : Int) ∧ upOf (List.take y x) = List.drop (Int.toNat (0 : Int)) (List.take (↑x_2 : Int).toNat (upOf (List.take x_1 x))) ++ [x.getD (↑x_1 :
  Int).toNat (0 : Int)] ++ List.drop (↑x_2 : Int).toNat (List.take (↑(upOf (List.take x_1 x)).length : Int).toNat (upOf (List.take x_1 x)))) ∧ ((SV.val
  (A := AA) (Value.slice none (0 : Nat) (0 : Nat)) = SV.val (A := AA) (Value.slice none (0 : Nat) (0 : Nat)) ∧ True) ∧ True) ∧ True) ∧ (0 : Int) ≤ (↑x_2
  : Int) ∧ (↑x_2 : Int) ≤ (↑(upOf (List.take x_1 x)).length : Int) ∧ (↑(upOf (List.take x_1 x)).length : Int) ≤ (↑(upOf (List.take x_1 x)).length : Int)
  ∧ (List.drop (Int.toNat (0 : Int)) (List.take (↑x_2 : Int).toNat (upOf (List.take x_1 x)))).length * (8 : Nat) ≤ (140737488355328 : Nat) ∧ (List.drop
  (Int.toNat (0 : Int)) (List.take (↑x_2 : Int).toNat (upOf (List.take x_1 x)))).length ≤ (1152921504606846976 : Nat) ∧ ((List.drop (Int.toNat (0 : Int))
  (List.take (↑x_2 : Int).toNat (upOf (List.take x_1 x)))).length + [x.getD (↑x_1 : Int).toNat (0 : Int)].length) * (8 : Nat) ≤ (140737488355328 : Nat) ∧
  (List.drop (Int.toNat (0 : Int)) (List.take (↑x_2 : Int).toNat (upOf (List.take x_1 x)))).length + [x.getD (↑x_1 : Int).toNat (0 : Int)].length ≤
  (1152921504606846976 : Nat) ∧ ((List.drop (Int.toNat (0 : Int)) (List.take (↑x_2 : Int).toNat (upOf (List.take x_1 x))) ++ [x.getD (↑x_1 : Int).toNat
  (0 : Int)]).length + (List.drop (↑x_2 : Int).toNat (List.take (↑(upOf (List.take x_1 x)).length : Int).toNat (upOf (List.take x_1 x)))).length) * (8 :
  Nat) ≤ (140737488355328 : Nat) ∧ (List.drop (Int.toNat (0 : Int)) (List.take (↑x_2 : Int).toNat (upOf (List.take x_1 x))) ++ [x.getD (↑x_1 : Int).toNat
  (0 : Int)]).length + (List.drop (↑x_2 : Int).toNat (List.take (↑(upOf (List.take x_1 x)).length : Int).toNat (upOf (List.take x_1 x)))).length ≤
  (1152921504606846976 : Nat) ∧ inI64 ((↑x_1 : Int) + (1 : Int)) ∧ ∃ y, Nat.le y x.length ∧ x.length - y < x.length - x_1 ∧ ((↑y : Int) = (↑x_1 : Int) +
  (1 : Int) ∧ upOf (List.take y x) = List.drop (Int.toNat (0 : Int)) (List.take (↑x_2 : Int).toNat (upOf (List.take x_1 x))) ++ [x.getD (↑x_1 :
  Int).toNat (0 : Int)] ++ List.drop (↑x_2 : Int).toNat (List.take (↑(upOf (List.take x_1 x)).length : Int).toNat (upOf (List.take x_1 x)))) ∧ ((SV.val
  (A := AA) (Value.slice none (0 : Nat) (0 : Nat)) = SV.val (A := AA) (Value.slice none (0 : Nat) (0 : Nat)) ∧ True) ∧ True) ∧ True) ∧ (0 : Int) ≤ (↑x_2
  : Int) ∧ (↑x_2 : Int) ≤ (↑(upOf (List.take x_1 x)).length : Int) ∧ (↑(upOf (List.take x_1 x)).length : Int) ≤ (↑(upOf (List.take x_1 x)).length : Int)
  ∧ (0 : Int) ≤ (0 : Int) ∧ (0 : Int) ≤ (↑x_2 : Int) ∧ (↑x_2 : Int) ≤ (↑(upOf (List.take x_1 x)).length : Int) ∧ (List.drop (Int.toNat (0 : Int))
  (List.take (↑x_2 : Int).toNat (upOf (List.take x_1 x)))).length * (8 : Nat) ≤ (140737488355328 : Nat) ∧ (List.drop (Int.toNat (0 : Int)) (List.take
  (↑x_2 : Int).toNat (upOf (List.take x_1 x)))).length ≤ (1152921504606846976 : Nat) ∧ ((List.drop (Int.toNat (0 : Int)) (List.take (↑x_2 : Int).toNat
  (upOf (List.take x_1 x)))).length + [x.getD (↑x_1 : Int).toNat (0 : Int)].length) * (8 : Nat) ≤ (140737488355328 : Nat) ∧ (List.drop (Int.toNat (0 :
  Int)) (List.take (↑x_2 : Int).toNat (upOf (List.take x_1 x)))).length + [x.getD (↑x_1 : Int).toNat (0 : Int)].length ≤ (1152921504606846976 : Nat) ∧
  ((List.drop (Int.toNat (0 : Int)) (List.take (↑x_2 : Int).toNat (upOf (List.take x_1 x))) ++ [x.getD (↑x_1 : Int).toNat (0 : Int)]).length + (List.drop
  (↑x_2 : Int).toNat (List.take (↑(upOf (List.take x_1 x)).length : Int).toNat (upOf (List.take x_1 x)))).length) * (8 : Nat) ≤ (140737488355328 : Nat) ∧
  (List.drop (Int.toNat (0 : Int)) (List.take (↑x_2 : Int).toNat (upOf (List.take x_1 x))) ++ [x.getD (↑x_1 : Int).toNat (0 : Int)]).length + (List.drop
  (↑x_2 : Int).toNat (List.take (↑(upOf (List.take x_1 x)).length : Int).toNat (upOf (List.take x_1 x)))).length ≤ (1152921504606846976 : Nat) ∧ inI64
  ((↑x_1 : Int) + (1 : Int)) ∧ ∃ y, Nat.le y x.length ∧ x.length - y < x.length - x_1 ∧ ((↑y : Int) = (↑x_1 : Int) + (1 : Int) ∧ upOf (List.take y x) =
  List.drop (Int.toNat (0 : Int)) (List.take (↑x_2 : Int).toNat (upOf (List.take x_1 x))) ++ [x.getD (↑x_1 : Int).toNat (0 : Int)] ++ List.drop (↑x_2 :
  Int).toNat (List.take (↑(upOf (List.take x_1 x)).length : Int).toNat (upOf (List.take x_1 x)))) ∧ ((SV.val (A := AA) (Value.slice none (0 : Nat) (0 :
  Nat)) = SV.val (A := AA) (Value.slice none (0 : Nat) (0 : Nat)) ∧ True) ∧ True) ∧ True) ∧ (0 : Int) ≤ (↑x_2 : Int) ∧ (↑x_2 : Int) ≤ (↑(upOf (List.take
  x_1 x)).length : Int) ∧ (↑(upOf (List.take x_1 x)).length : Int) ≤ (↑(upOf (List.take x_1 x)).length : Int) ∧ ((0 : Int) ≤ (0 : Int) ∧ (0 : Int) ≤
  (↑x_2 : Int) ∧ (↑x_2 : Int) ≤ (↑(upOf (List.take x_1 x)).length : Int) ∧ ((List.drop (Int.toNat (0 : Int)) (List.take (↑x_2 : Int).toNat (upOf
  (List.take x_1 x)))).length * (8 : Nat) ≤ (140737488355328 : Nat) ∧ (List.drop (Int.toNat (0 : Int)) (List.take (↑x_2 : Int).toNat (upOf (List.take x_1
  x)))).length ≤ (1152921504606846976 : Nat) ∧ ((List.drop (Int.toNat (0 : Int)) (List.take (↑x_2 : Int).toNat (upOf (List.take x_1 x)))).length +
  [x.getD (↑x_1 : Int).toNat (0 : Int)].length) * (8 : Nat) ≤ (140737488355328 : Nat) ∧ (List.drop (Int.toNat (0 : Int)) (List.take (↑x_2 : Int).toNat
  (upOf (List.take x_1 x)))).length + [x.getD (↑x_1 : Int).toNat (0 : Int)].length ≤ (1152921504606846976 : Nat) ∧ ((List.drop (Int.toNat (0 : Int))
  (List.take (↑x_2 : Int).toNat (upOf (List.take x_1 x))) ++ [x.getD (↑x_1 : Int).toNat (0 : Int)]).length + (List.drop (↑x_2 : Int).toNat (List.take
  (↑(upOf (List.take x_1 x)).length : Int).toNat (upOf (List.take x_1 x)))).length) * (8 : Nat) ≤ (140737488355328 : Nat) ∧ (List.drop (Int.toNat (0 :
  Int)) (List.take (↑x_2 : Int).toNat (upOf (List.take x_1 x))) ++ [x.getD (↑x_1 : Int).toNat (0 : Int)]).length + (List.drop (↑x_2 : Int).toNat
  (List.take (↑(upOf (List.take x_1 x)).length : Int).toNat (upOf (List.take x_1 x)))).length ≤ (1152921504606846976 : Nat) ∧ inI64 ((↑x_1 : Int) + (1 :
  Int)) ∧ ∃ y, Nat.le y x.length ∧ x.length - y < x.length - x_1 ∧ ((↑y : Int) = (↑x_1 : Int) + (1 : Int) ∧ upOf (List.take y x) = List.drop (Int.toNat
  (0 : Int)) (List.take (↑x_2 : Int).toNat (upOf (List.take x_1 x))) ++ [x.getD (↑x_1 : Int).toNat (0 : Int)] ++ List.drop (↑x_2 : Int).toNat (List.take
  (↑(upOf (List.take x_1 x)).length : Int).toNat (upOf (List.take x_1 x)))) ∧ ((SV.val (A := AA) (Value.slice none (0 : Nat) (0 : Nat)) = SV.val (A :=
  AA) (Value.slice none (0 : Nat) (0 : Nat)) ∧ True) ∧ True) ∧ True) ∧ (List.drop (Int.toNat (0 : Int)) (List.take (↑x_2 : Int).toNat (upOf (List.take
  x_1 x)))).length * (8 : Nat) ≤ (140737488355328 : Nat) ∧ (List.drop (Int.toNat (0 : Int)) (List.take (↑x_2 : Int).toNat (upOf (List.take x_1
  x)))).length ≤ (1152921504606846976 : Nat) ∧ ((List.drop (Int.toNat (0 : Int)) (List.take (↑x_2 : Int).toNat (upOf (List.take x_1 x)))).length +
  [x.getD (↑x_1 : Int).toNat (0 : Int)].length) * (8 : Nat) ≤ (140737488355328 : Nat) ∧ (List.drop (Int.toNat (0 : Int)) (List.take (↑x_2 : Int).toNat
  (upOf (List.take x_1 x)))).length + [x.getD (↑x_1 : Int).toNat (0 : Int)].length ≤ (1152921504606846976 : Nat) ∧ ((List.drop (Int.toNat (0 : Int))
  (List.take (↑x_2 : Int).toNat (upOf (List.take x_1 x))) ++ [x.getD (↑x_1 : Int).toNat (0 : Int)]).length + (List.drop (↑x_2 : Int).toNat (List.take
  (↑(upOf (List.take x_1 x)).length : Int).toNat (upOf (List.take x_1 x)))).length) * (8 : Nat) ≤ (140737488355328 : Nat) ∧ (List.drop (Int.toNat (0 :
  Int)) (List.take (↑x_2 : Int).toNat (upOf (List.take x_1 x))) ++ [x.getD (↑x_1 : Int).toNat (0 : Int)]).length + (List.drop (↑x_2 : Int).toNat
  (List.take (↑(upOf (List.take x_1 x)).length : Int).toNat (upOf (List.take x_1 x)))).length ≤ (1152921504606846976 : Nat) ∧ inI64 ((↑x_1 : Int) + (1 :
  Int)) ∧ ∃ y, Nat.le y x.length ∧ x.length - y < x.length - x_1 ∧ ((↑y : Int) = (↑x_1 : Int) + (1 : Int) ∧ upOf (List.take y x) = List.drop (Int.toNat
  (0 : Int)) (List.take (↑x_2 : Int).toNat (upOf (List.take x_1 x))) ++ [x.getD (↑x_1 : Int).toNat (0 : Int)] ++ List.drop (↑x_2 : Int).toNat (List.take
  (↑(upOf (List.take x_1 x)).length : Int).toNat (upOf (List.take x_1 x)))) ∧ ((SV.val (A := AA) (Value.slice none (0 : Nat) (0 : Nat)) = SV.val (A :=
  AA) (Value.slice none (0 : Nat) (0 : Nat)) ∧ True) ∧ True) ∧ True) ∧ (0 : Int) ≤ (0 : Int) ∧ (0 : Int) ≤ (↑x_2 : Int) ∧ (↑x_2 : Int) ≤ (↑(upOf
  (List.take x_1 x)).length : Int) ∧ (List.drop (Int.toNat (0 : Int)) (List.take (↑x_2 : Int).toNat (upOf (List.take x_1 x)))).length * (8 : Nat) ≤
  (140737488355328 : Nat) ∧ (List.drop (Int.toNat (0 : Int)) (List.take (↑x_2 : Int).toNat (upOf (List.take x_1 x)))).length ≤ (1152921504606846976 :
  Nat) ∧ ((List.drop (Int.toNat (0 : Int)) (List.take (↑x_2 : Int).toNat (upOf (List.take x_1 x)))).length + [x.getD (↑x_1 : Int).toNat (0 :
  Int)].length) * (8 : Nat) ≤ (140737488355328 : Nat) ∧ (List.drop (Int.toNat (0 : Int)) (List.take (↑x_2 : Int).toNat (upOf (List.take x_1 x)))).length
  + [x.getD (↑x_1 : Int).toNat (0 : Int)].length ≤ (1152921504606846976 : Nat) ∧ ((List.drop (Int.toNat (0 : Int)) (List.take (↑x_2 : Int).toNat (upOf
  (List.take x_1 x))) ++ [x.getD (↑x_1 : Int).toNat (0 : Int)]).length + (List.drop (↑x_2 : Int).toNat (List.take (↑(upOf (List.take x_1 x)).length :
  Int).toNat (upOf (List.take x_1 x)))).length) * (8 : Nat) ≤ (140737488355328 : Nat) ∧ (List.drop (Int.toNat (0 : Int)) (List.take (↑x_2 : Int).toNat
  (upOf (List.take x_1 x))) ++ [x.getD (↑x_1 : Int).toNat (0 : Int)]).length + (List.drop (↑x_2 : Int).toNat (List.take (↑(upOf (List.take x_1 x)).length
  : Int).toNat (upOf (List.take x_1 x)))).length ≤ (1152921504606846976 : Nat) ∧ inI64 ((↑x_1 : Int) + (1 : Int)) ∧ ∃ y, Nat.le y x.length ∧ x.length - y
  < x.length - x_1 ∧ ((↑y : Int) = (↑x_1 : Int) + (1 : Int) ∧ upOf (List.take y x) = List.drop (Int.toNat (0 : Int)) (List.take (↑x_2 : Int).toNat (upOf
  (List.take x_1 x))) ++ [x.getD (↑x_1 : Int).toNat (0 : Int)] ++ List.drop (↑x_2 : Int).toNat (List.take (↑(upOf (List.take x_1 x)).length : Int).toNat
  (upOf (List.take x_1 x)))) ∧ ((SV.val (A := AA) (Value.slice none (0 : Nat) (0 : Nat)) = SV.val (A := AA) (Value.slice none (0 : Nat) (0 : Nat)) ∧
  True) ∧ True) ∧ True) ∧ (0 : Int) ≤ (↑x_2 : Int) ∧ (↑x_2 : Int) ≤ (↑(upOf (List.take x_1 x)).length : Int) ∧ (↑(upOf (List.take x_1 x)).length : Int) ≤
  (↑(upOf (List.take x_1 x)).length : Int) ∧ ((0 : Int) ≤ (0 : Int) ∧ (0 : Int) ≤ (↑x_2 : Int) ∧ (↑x_2 : Int) ≤ (↑(upOf (List.take x_1 x)).length : Int)
  ∧ ((List.drop (Int.toNat (0 : Int)) (List.take (↑x_2 : Int).toNat (upOf (List.take x_1 x)))).length * (8 : Nat) ≤ (140737488355328 : Nat) ∧ (List.drop
  (Int.toNat (0 : Int)) (List.take (↑x_2 : Int).toNat (upOf (List.take x_1 x)))).length ≤ (1152921504606846976 : Nat) ∧ (↑x_1 : Int).toNat < x.length ∧
  ((List.drop (Int.toNat (0 : Int)) (List.take (↑x_2 : Int).toNat (upOf (List.take x_1 x)))).length + [x.getD (↑x_1 : Int).toNat (0 : Int)].length) * (8
  : Nat) ≤ (140737488355328 : Nat) ∧ (List.drop (Int.toNat (0 : Int)) (List.take (↑x_2 : Int).toNat (upOf (List.take x_1 x)))).length + [x.getD (↑x_1 :
  Int).toNat (0 : Int)].length ≤ (1152921504606846976 : Nat) ∧ ((List.drop (Int.toNat (0 : Int)) (List.take (↑x_2 : Int).toNat (upOf (List.take x_1 x)))
  ++ [x.getD (↑x_1 : Int).toNat (0 : Int)]).length + (List.drop (↑x_2 : Int).toNat (List.take (↑(upOf (List.take x_1 x)).length : Int).toNat (upOf
  (List.take x_1 x)))).length) * (8 : Nat) ≤ (140737488355328 : Nat) ∧ (List.drop (Int.toNat (0 : Int)) (List.take (↑x_2 : Int).toNat (upOf (List.take
  x_1 x))) ++ [x.getD (↑x_1 : Int).toNat (0 : Int)]).length + (List.drop (↑x_2 : Int).toNat (List.take (↑(upOf (List.take x_1 x)).length : Int).toNat
  (upOf (List.take x_1 x)))).length ≤ (1152921504606846976 : Nat) ∧ inI64 ((↑x_1 : Int) + (1 : Int)) ∧ ∃ y, Nat.le y x.length ∧ x.length - y < x.length -
  x_1 ∧ ((↑y : Int) = (↑x_1 : Int) + (1 : Int) ∧ upOf (List.take y x) = List.drop (Int.toNat (0 : Int)) (List.take (↑x_2 : Int).toNat (upOf (List.take
  x_1 x))) ++ [x.getD (↑x_1 : Int).toNat (0 : Int)] ++ List.drop (↑x_2 : Int).toNat (List.take (↑(upOf (List.take x_1 x)).length : Int).toNat (upOf
  (List.take x_1 x)))) ∧ ((SV.val (A := AA) (Value.slice none (0 : Nat) (0 : Nat)) = SV.val (A := AA) (Value.slice none (0 : Nat) (0 : Nat)) ∧ True) ∧
  True) ∧ True) ∧ (↑x_1 : Int).toNat < x.length ∧ ((List.drop (Int.toNat (0 : Int)) (List.take (↑x_2 : Int).toNat (upOf (List.take x_1 x)))).length * (8
  : Nat) ≤ (140737488355328 : Nat) ∧ (List.drop (Int.toNat (0 : Int)) (List.take (↑x_2 : Int).toNat (upOf (List.take x_1 x)))).length ≤
  (1152921504606846976 : Nat) ∧ ((List.drop (Int.toNat (0 : Int)) (List.take (↑x_2 : Int).toNat (upOf (List.take x_1 x)))).length + [x.getD (↑x_1 :
  Int).toNat (0 : Int)].length) * (8 : Nat) ≤ (140737488355328 : Nat) ∧ (List.drop (Int.toNat (0 : Int)) (List.take (↑x_2 : Int).toNat (upOf (List.take
  x_1 x)))).length + [x.getD (↑x_1 : Int).toNat (0 : Int)].length ≤ (1152921504606846976 : Nat) ∧ ((List.drop (Int.toNat (0 : Int)) (List.take (↑x_2 :
  Int).toNat (upOf (List.take x_1 x))) ++ [x.getD (↑x_1 : Int).toNat (0 : Int)]).length + (List.drop (↑x_2 : Int).toNat (List.take (↑(upOf (List.take x_1
  x)).length : Int).toNat (upOf (List.take x_1 x)))).length) * (8 : Nat) ≤ (140737488355328 : Nat) ∧ (List.drop (Int.toNat (0 : Int)) (List.take (↑x_2 :
  Int).toNat (upOf (List.take x_1 x))) ++ [x.getD (↑x_1 : Int).toNat (0 : Int)]).length + (List.drop (↑x_2 : Int).toNat (List.take (↑(upOf (List.take x_1
  x)).length : Int).toNat (upOf (List.take x_1 x)))).length ≤ (1152921504606846976 : Nat) ∧ inI64 ((↑x_1 : Int) + (1 : Int)) ∧ ∃ y, Nat.le y x.length ∧
  x.length - y < x.length - x_1 ∧ ((↑y : Int) = (↑x_1 : Int) + (1 : Int) ∧ upOf (List.take y x) = List.drop (Int.toNat (0 : Int)) (List.take (↑x_2 :
  Int).toNat (upOf (List.take x_1 x))) ++ [x.getD (↑x_1 : Int).toNat (0 : Int)] ++ List.drop (↑x_2 : Int).toNat (List.take (↑(upOf (List.take x_1
  x)).length : Int).toNat (upOf (List.take x_1 x)))) ∧ ((SV.val (A := AA) (Value.slice none (0 : Nat) (0 : Nat)) = SV.val (A := AA) (Value.slice none (0
  : Nat) (0 : Nat)) ∧ True) ∧ True) ∧ True) ∧ (List.drop (Int.toNat (0 : Int)) (List.take (↑x_2 : Int).toNat (upOf (List.take x_1 x)))).length * (8 :
  Nat) ≤ (140737488355328 : Nat) ∧ (List.drop (Int.toNat (0 : Int)) (List.take (↑x_2 : Int).toNat (upOf (List.take x_1 x)))).length ≤
  (1152921504606846976 : Nat) ∧ ((List.drop (Int.toNat (0 : Int)) (List.take (↑x_2 : Int).toNat (upOf (List.take x_1 x)))).length + [x.getD (↑x_1 :
  Int).toNat (0 : Int)].length) * (8 : Nat) ≤ (140737488355328 : Nat) ∧ (List.drop (Int.toNat (0 : Int)) (List.take (↑x_2 : Int).toNat (upOf (List.take
  x_1 x)))).length + [x.getD (↑x_1 : Int).toNat (0 : Int)].length ≤ (1152921504606846976 : Nat) ∧ ((List.drop (Int.toNat (0 : Int)) (List.take (↑x_2 :
  Int).toNat (upOf (List.take x_1 x))) ++ [x.getD (↑x_1 : Int).toNat (0 : Int)]).length + (List.drop (↑x_2 : Int).toNat (List.take (↑(upOf (List.take x_1
  x)).length : Int).toNat (upOf (List.take x_1 x)))).length) * (8 : Nat) ≤ (140737488355328 : Nat) ∧ (List.drop (Int.toNat (0 : Int)) (List.take (↑x_2 :
  Int).toNat (upOf (List.take x_1 x))) ++ [x.getD (↑x_1 : Int).toNat (0 : Int)]).length + (List.drop (↑x_2 : Int).toNat (List.take (↑(upOf (List.take x_1
  x)).length : Int).toNat (upOf (List.take x_1 x)))).length ≤ (1152921504606846976 : Nat) ∧ inI64 ((↑x_1 : Int) + (1 : Int)) ∧ ∃ y, Nat.le y x.length ∧
  x.length - y < x.length - x_1 ∧ ((↑y : Int) = (↑x_1 : Int) + (1 : Int) ∧ upOf (List.take y x) = List.drop (Int.toNat (0 : Int)) (List.take (↑x_2 :
  Int).toNat (upOf (List.take x_1 x))) ++ [x.getD (↑x_1 : Int).toNat (0 : Int)] ++ List.drop (↑x_2 : Int).toNat (List.take (↑(upOf (List.take x_1
  x)).length : Int).toNat (upOf (List.take x_1 x)))) ∧ ((SV.val (A := AA) (Value.slice none (0 : Nat) (0 : Nat)) = SV.val (A := AA) (Value.slice none (0
  : Nat) (0 : Nat)) ∧ True) ∧ True) ∧ True) ∧ (↑x_1 : Int).toNat < x.length ∧ ((0 : Int) ≤ (0 : Int) ∧ (0 : Int) ≤ (↑x_2 : Int) ∧ (↑x_2 : Int) ≤ (↑(upOf
  (List.take x_1 x)).length : Int) ∧ ((List.drop (Int.toNat (0 : Int)) (List.take (↑x_2 : Int).toNat (upOf (List.take x_1 x)))).length * (8 : Nat) ≤
  (140737488355328 : Nat) ∧ (List.drop (Int.toNat (0 : Int)) (List.take (↑x_2 : Int).toNat (upOf (List.take x_1 x)))).length ≤ (1152921504606846976 :
  Nat) ∧ ((List.drop (Int.toNat (0 : Int)) (List.take (↑x_2 : Int).toNat (upOf (List.take x_1 x)))).length + [x.getD (↑x_1 : Int).toNat (0 :
  Int)].length) * (8 : Nat) ≤ (140737488355328 : Nat) ∧ (List.drop (Int.toNat (0 : Int)) (List.take (↑x_2 : Int).toNat (upOf (List.take x_1 x)))).length
  + [x.getD (↑x_1 : Int).toNat (0 : Int)].length ≤ (1152921504606846976 : Nat) ∧ ((List.drop (Int.toNat (0 : Int)) (List.take (↑x_2 : Int).toNat (upOf
  (List.take x_1 x))) ++ [x.getD (↑x_1 : Int).toNat (0 : Int)]).length + (List.drop (↑x_2 : Int).toNat (List.take (↑(upOf (List.take x_1 x)).length :
  Int).toNat (upOf (List.take x_1 x)))).length) * (8 : Nat) ≤ (140737488355328 : Nat) ∧ (List.drop (Int.toNat (0 : Int)) (List.take (↑x_2 : Int).toNat
  (upOf (List.take x_1 x))) ++ [x.getD (↑x_1 : Int).toNat (0 : Int)]).length + (List.drop (↑x_2 : Int).toNat (List.take (↑(upOf (List.take x_1 x)).length
  : Int).toNat (upOf (List.take x_1 x)))).length ≤ (1152921504606846976 : Nat) ∧ inI64 ((↑x_1 : Int) + (1 : Int)) ∧ ∃ y, Nat.le y x.length ∧ x.length - y
  < x.length - x_1 ∧ ((↑y : Int) = (↑x_1 : Int) + (1 : Int) ∧ upOf (List.take y x) = List.drop (Int.toNat (0 : Int)) (List.take (↑x_2 : Int).toNat (upOf
  (List.take x_1 x))) ++ [x.getD (↑x_1 : Int).toNat (0 : Int)] ++ List.drop (↑x_2 : Int).toNat (List.take (↑(upOf (List.take x_1 x)).length : Int).toNat
  (upOf (List.take x_1 x)))) ∧ ((SV.val (A := AA) (Value.slice none (0 : Nat) (0 : Nat)) = SV.val (A := AA) (Value.slice none (0 : Nat) (0 : Nat)) ∧
  True) ∧ True) ∧ True) ∧ (List.drop (Int.toNat (0 : Int)) (List.take (↑x_2 : Int).toNat (upOf (List.take x_1 x)))).length * (8 : Nat) ≤ (140737488355328
  : Nat) ∧ (List.drop (Int.toNat (0 : Int)) (List.take (↑x_2 : Int).toNat (upOf (List.take x_1 x)))).length ≤ (1152921504606846976 : Nat) ∧ ((List.drop
  (Int.toNat (0 : Int)) (List.take (↑x_2 : Int).toNat (upOf (List.take x_1 x)))).length + [x.getD (↑x_1 : Int).toNat (0 : Int)].length) * (8 : Nat) ≤
  (140737488355328 : Nat) ∧ (List.drop (Int.toNat (0 : Int)) (List.take (↑x_2 : Int).toNat (upOf (List.take x_1 x)))).length + [x.getD (↑x_1 : Int).toNat
  (0 : Int)].length ≤ (1152921504606846976 : Nat) ∧ ((List.drop (Int.toNat (0 : Int)) (List.take (↑x_2 : Int).toNat (upOf (List.take x_1 x))) ++ [x.getD
  (↑x_1 : Int).toNat (0 : Int)]).length + (List.drop (↑x_2 : Int).toNat (List.take (↑(upOf (List.take x_1 x)).length : Int).toNat (upOf (List.take x_1
  x)))).length) * (8 : Nat) ≤ (140737488355328 : Nat) ∧ (List.drop (Int.toNat (0 : Int)) (List.take (↑x_2 : Int).toNat (upOf (List.take x_1 x))) ++
  [x.getD (↑x_1 : Int).toNat (0 : Int)]).length + (List.drop (↑x_2 : Int).toNat (List.take (↑(upOf (List.take x_1 x)).length : Int).toNat (upOf
  (List.take x_1 x)))).length ≤ (1152921504606846976 : Nat) ∧ inI64 ((↑x_1 : Int) + (1 : Int)) ∧ ∃ y, Nat.le y x.length ∧ x.length - y < x.length - x_1 ∧
  ((↑y : Int) = (↑x_1 : Int) + (1 : Int) ∧ upOf (List.take y x) = List.drop (Int.toNat (0 : Int)) (List.take (↑x_2 : Int).toNat (upOf (List.take x_1 x)))
  ++ [x.getD (↑x_1 : Int).toNat (0 : Int)] ++ List.drop (↑x_2 : Int).toNat (List.take (↑(upOf (List.take x_1 x)).length : Int).toNat (upOf (List.take x_1
  x)))) ∧ ((SV.val (A := AA) (Value.slice none (0 : Nat) (0 : Nat)) = SV.val (A := AA) (Value.slice none (0 : Nat) (0 : Nat)) ∧ True) ∧ True) ∧ True) ∧
  (0 : Int) ≤ (0 : Int) ∧ (0 : Int) ≤ (↑x_2 : Int) ∧ (↑x_2 : Int) ≤ (↑(upOf (List.take x_1 x)).length : Int) ∧ (List.drop (Int.toNat (0 : Int))
  (List.take (↑x_2 : Int).toNat (upOf (List.take x_1 x)))).length * (8 : Nat) ≤ (140737488355328 : Nat) ∧ (List.drop (Int.toNat (0 : Int)) (List.take
  (↑x_2 : Int).toNat (upOf (List.take x_1 x)))).length ≤ (1152921504606846976 : Nat) ∧ ((List.drop (Int.toNat (0 : Int)) (List.take (↑x_2 : Int).toNat
  (upOf (List.take x_1 x)))).length + [x.getD (↑x_1 : Int).toNat (0 : Int)].length) * (8 : Nat) ≤ (140737488355328 : Nat) ∧ (List.drop (Int.toNat (0 :
  Int)) (List.take (↑x_2 : Int).toNat (upOf (List.take x_1 x)))).length + [x.getD (↑x_1 : Int).toNat (0 : Int)].length ≤ (1152921504606846976 : Nat) ∧
  ((List.drop (Int.toNat (0 : Int)) (List.take (↑x_2 : Int).toNat (upOf (List.take x_1 x))) ++ [x.getD (↑x_1 : Int).toNat (0 : Int)]).length + (List.drop
  (↑x_2 : Int).toNat (List.take (↑(upOf (List.take x_1 x)).length : Int).toNat (upOf (List.take x_1 x)))).length) * (8 : Nat) ≤ (140737488355328 : Nat) ∧
  (List.drop (Int.toNat (0 : Int)) (List.take (↑x_2 : Int).toNat (upOf (List.take x_1 x))) ++ [x.getD (↑x_1 : Int).toNat (0 : Int)]).length + (List.drop
  (↑x_2 : Int).toNat (List.take (↑(upOf (List.take x_1 x)).length : Int).toNat (upOf (List.take x_1 x)))).length ≤ (1152921504606846976 : Nat) ∧ inI64
  ((↑x_1 : Int) + (1 : Int)) ∧ ∃ y, Nat.le y x.length ∧ x.length - y < x.length - x_1 ∧ ((↑y : Int) = (↑x_1 : Int) + (1 : Int) ∧ upOf (List.take y x) =
  List.drop (Int.toNat (0 : Int)) (List.take (↑x_2 : Int).toNat (upOf (List.take x_1 x))) ++ [x.getD (↑x_1 : Int).toNat (0 : Int)] ++ List.drop (↑x_2 :
  Int).toNat (List.take (↑(upOf (List.take x_1 x)).length : Int).toNat (upOf (List.take x_1 x)))) ∧ ((SV.val (A := AA) (Value.slice none (0 : Nat) (0 :
  Nat)) = SV.val (A := AA) (Value.slice none (0 : Nat) (0 : Nat)) ∧ True) ∧ True) ∧ True))) ∧ (decide ((↑x_1 : Int) < (↑x.length : Int)) = false → (upOf
  (List.take x_1 x) = upOf (List.take x_1 x) ∧ List.replicate (32 : Nat) (0 : Int) = List.replicate (32 : Nat) (0 : Int) ∧ (0 : Int) = (0 : Int) ∧ (0 :
  Int) = (0 : Int) ∧ True) ∧ ([Br.mk (upOf x) (List.replicate (32 : Nat) (0 : Int)) (0 : Int) (0 : Int)] = [Br.mk (upOf (List.take x_1 x))
  (List.replicate (32 : Nat) (0 : Int)) (0 : Int) (0 : Int)] ∧ True) ∧ True ∧ True)

set_option maxRecDepth 20000 in
theorem rAll_eq : rAllVC = fnS E75 f27 (bodyOf f27) rAllLS rAllAnn := by kernel_rfl
set_option maxRecDepth 20000 in
set_option maxHeartbeats 2000000 in
theorem rAll_vc : rAllVC := by
  intro xs hx
  replace hx : xs.length ≤ 1000000 := hx
  simp only [true_and, and_true, decide_eq_true_eq, decide_eq_false_iff_not, Int.toNat_natCast, Int.toNat_zero, List.drop_zero, List.length_singleton, List.take_length, Int.le_refl]
  refine ⟨⟨0, Nat.zero_le _, rfl, rfl⟩, fun i hi _ => ⟨fun h => ?_, fun h => ?_⟩⟩
  · have hi' : i < xs.length := by omega
    have hl := upOf_len (xs := xs) (i := i) (by omega)
    have hup := upOf_up hi'
    refine ⟨by omega, by omega, hi', fun hm => ?_, fun hm => ?_⟩
    · refine ⟨by unfold inI64; omega, i + 1, hi', by omega, by omega, ?_⟩
      rw [hup]
      unfold insU
      rw [if_pos hm]
    generalize hL : upOf (xs.take i) = l at hm hl hup ⊢
    generalize hY : xs.getD i 0 = y0 at hm hup ⊢
    refine ⟨⟨0, ⟨Nat.zero_le _, by simp⟩, rfl⟩, fun k hk _ => ?_⟩
    obtain ⟨hk1, hk2⟩ := hk
    have A1 : (0 : Int) ≤ (i : Int) := by omega
    have A2 : (i : Int) < (xs.length : Int) := by omega
    have B1 : (0 : Int) ≤ (k : Int) := by omega
    have B2 : (k : Int) ≤ (l.length : Int) := by omega
    have C1 : (l.take k).length * 8 ≤ 140737488355328 := by rw [List.length_take]; omega
    have C2 : (l.take k).length ≤ 1152921504606846976 := by rw [List.length_take]; omega
    have C3 : ((l.take k).length + 1) * 8 ≤ 140737488355328 := by rw [List.length_take]; omega
    have C4 : (l.take k).length + 1 ≤ 1152921504606846976 := by rw [List.length_take]; omega
    have C5 : ((l.take k ++ [y0]).length + (l.drop k).length) * 8 ≤ 140737488355328 := by simp only [List.length_append, List.length_take, List.length_drop, List.length_singleton]; omega
    have C6 : (l.take k ++ [y0]).length + (l.drop k).length ≤ 1152921504606846976 := by simp only [List.length_append, List.length_take, List.length_drop, List.length_singleton]; omega
    have D : inI64 ((i : Int) + 1) := by unfold inI64; omega
    have fin : lowN y0 l = k → ∃ y, Nat.le y xs.length ∧ xs.length - y < xs.length - i ∧ (y : Int) = (i : Int) + 1 ∧ upOf (xs.take y) = l.take k ++ [y0] ++ l.drop k := fun e => by
      refine ⟨i + 1, hi', by omega, by omega, ?_⟩
      rw [hup]
      unfold insU
      rw [if_neg hm, e]
    refine ⟨fun h2 => ?_, fun h2 => ?_⟩
    · have hk' : k < l.length := by omega
      have K2 : (k : Int) < (l.length : Int) := by omega
      refine ⟨by omega, by omega, hk', by omega, by omega, hi', fun h3 => ?_, fun h3 => ?_⟩
      · refine ⟨by unfold inI64; omega, k + 1, ⟨hk', ?_⟩, by omega, by omega⟩
        rw [hk2, lowN_drop hk' h3]
        omega
      · have E := fin (by rw [hk2, lowN_stop hk' h3]; omega)
        simp only [A1, A2, hi', B1, B2, C1, C2, C3, C4, C5, C6, D, E, and_self, true_and, and_true]
    · have E := fin (by rw [hk2, List.drop_of_length_le (by omega)]; simp [lowN])
      simp only [A1, A2, hi', B1, B2, C1, C2, C3, C4, C5, C6, D, E, and_self, true_and, and_true]
  · rw [List.take_of_length_le (by omega)]
theorem rAll_ok : Fits E75 f27 (bodyOf f27) rAllLS rAllAnn := by
  constructor
  rw [← rAll_eq]
  exact rAll_vc
theorem f27_has : Has prog 27 f27 (bodyOf f27) := ⟨by kernel_rfl, by kernel_rfl, by kernel_rfl⟩
theorem known76 : Known prog L76 := by
  unfold L76
  exact known75.lent mixed f27_has E75_eq rAll_ok (fun _ _ => Nat.le_refl _) (fun _ _ => rfl)

def allLawVC : Prop := ∀ (x : List Int), True → (↑x.length : Int) ≤ (9223372036854775807 : Int) → (decide ((↑x.length : Int) > (200 : Int)) = true → True ∧ True ∧ True ∧ true
  = true ∧ True ∧ True) ∧ (decide ((↑x.length : Int) > (200 : Int)) = false → x.length * (8 : Nat) ≤ (140737488355328 : Nat) ∧ x.length ≤
  (1152921504606846976 : Nat) ∧ x = x ∧ True ∧ x.length.le (1000000 : Nat) ∧ (([] : List Int) = [] ∧ Proofs.YtcglahfmnoghjaaDoor.allOf x =
  Proofs.YtcglahfmnoghjaaDoor.allOf x ∧ True) ∧ True ∧ (PutX.mk [] (Proofs.YtcglahfmnoghjaaDoor.allOf x)).Ok ∧ (x = x ∧ True ∧ x.length.le (1000000 :
  Nat) ∧ (([] : List Int) = [] ∧ [Br.mk (upOf x) (List.replicate (32 : Nat) (0 : Int)) (0 : Int) (0 : Int)] = [Br.mk (upOf x) (List.replicate (32 : Nat)
  (0 : Int)) (0 : Int) (0 : Int)] ∧ True) ∧ True ∧ (PutX.mk [] [Br.mk (upOf x) (List.replicate (32 : Nat) (0 : Int)) (0 : Int) (0 : Int)]).Ok ∧
  (((strOfNums ([] ++ putB (Proofs.YtcglahfmnoghjaaDoor.allOf x))).toList == (strOfNums ([] ++ putB [Br.mk (upOf x) (List.replicate (32 : Nat) (0 : Int))
  (0 : Int) (0 : Int)])).toList) = true → True ∧ (decide (x = x) = true → True ∧ True ∧ True ∧ true = true ∧ True ∧ True) ∧ (decide (x = x) = false →
  true = false ∧ True ∧ True)) ∧ (((strOfNums ([] ++ putB (Proofs.YtcglahfmnoghjaaDoor.allOf x))).toList == (strOfNums ([] ++ putB [Br.mk (upOf x)
  (List.replicate (32 : Nat) (0 : Int)) (0 : Int) (0 : Int)])).toList) = false → true = false ∧ True ∧ True)) ∧ x = x ∧ True ∧ x.length.le (1000000 :
  Nat) ∧ ((([] : List Int) = [] ∧ [Br.mk (upOf x) (List.replicate (32 : Nat) (0 : Int)) (0 : Int) (0 : Int)] = [Br.mk (upOf x) (List.replicate (32 : Nat)
  (0 : Int)) (0 : Int) (0 : Int)] ∧ True) ∧ True ∧ (PutX.mk [] [Br.mk (upOf x) (List.replicate (32 : Nat) (0 : Int)) (0 : Int) (0 : Int)]).Ok ∧
  (((strOfNums ([] ++ putB (Proofs.YtcglahfmnoghjaaDoor.allOf x))).toList == (strOfNums ([] ++ putB [Br.mk (upOf x) (List.replicate (32 : Nat) (0 : Int))
  (0 : Int) (0 : Int)])).toList) = true → True ∧ (decide (x = x) = true → True ∧ True ∧ True ∧ true = true ∧ True ∧ True) ∧ (decide (x = x) = false →
  true = false ∧ True ∧ True)) ∧ (((strOfNums ([] ++ putB (Proofs.YtcglahfmnoghjaaDoor.allOf x))).toList == (strOfNums ([] ++ putB [Br.mk (upOf x)
  (List.replicate (32 : Nat) (0 : Int)) (0 : Int) (0 : Int)])).toList) = false → true = false ∧ True ∧ True)) ∧ (([] : List Int) = [] ∧ [Br.mk (upOf x)
  (List.replicate (32 : Nat) (0 : Int)) (0 : Int) (0 : Int)] = [Br.mk (upOf x) (List.replicate (32 : Nat) (0 : Int)) (0 : Int) (0 : Int)] ∧ True) ∧ True
  ∧ (PutX.mk [] [Br.mk (upOf x) (List.replicate (32 : Nat) (0 : Int)) (0 : Int) (0 : Int)]).Ok ∧ ((((strOfNums ([] ++ putB
  (Proofs.YtcglahfmnoghjaaDoor.allOf x))).toList == (strOfNums ([] ++ putB [Br.mk (upOf x) (List.replicate (32 : Nat) (0 : Int)) (0 : Int) (0 :
  Int)])).toList) = true → True ∧ (decide (x = x) = true → True ∧ True ∧ True ∧ true = true ∧ True ∧ True) ∧ (decide (x = x) = false → true = false ∧
  True ∧ True)) ∧ (((strOfNums ([] ++ putB (Proofs.YtcglahfmnoghjaaDoor.allOf x))).toList == (strOfNums ([] ++ putB [Br.mk (upOf x) (List.replicate (32 :
  Nat) (0 : Int)) (0 : Int) (0 : Int)])).toList) = false → true = false ∧ True ∧ True)) ∧ (((strOfNums ([] ++ putB (Proofs.YtcglahfmnoghjaaDoor.allOf
  x))).toList == (strOfNums ([] ++ putB [Br.mk (upOf x) (List.replicate (32 : Nat) (0 : Int)) (0 : Int) (0 : Int)])).toList) = true → True ∧ (decide (x =
  x) = true → True ∧ True ∧ True ∧ true = true ∧ True ∧ True) ∧ (decide (x = x) = false → true = false ∧ True ∧ True)) ∧ (((strOfNums ([] ++ putB
  (Proofs.YtcglahfmnoghjaaDoor.allOf x))).toList == (strOfNums ([] ++ putB [Br.mk (upOf x) (List.replicate (32 : Nat) (0 : Int)) (0 : Int) (0 :
  Int)])).toList) = false → true = false ∧ True ∧ True))

theorem allLaw_eq : allLawVC = fnS E76 f7 (bodyOf f7) allLawLS noAnn := by kernel_rfl
theorem allLaw_vc : allLawVC := by
  intro xs _
  by_cases h : (xs.length : Int) > 200
  · have h1 : decide ((xs.length : Int) > 200) = true := decide_eq_true h
    simp only [h1, true_and, and_true, Bool.true_eq_false, false_implies, implies_true]
  · have h1 : decide ((xs.length : Int) > 200) = false := decide_eq_false h
    have hl : xs.length ≤ 200 := by omega
    have hl2 : Nat.le xs.length 1000000 := show xs.length ≤ 1000000 by omega
    have hu := upOf_len (xs := xs) (i := xs.length) (Nat.le_refl _)
    rw [List.take_length] at hu
    have hput : (PutX.mk [] [Br.mk (upOf xs) (List.replicate 32 0) 0 0]).Ok := by
      refine ⟨by simp, ?_, ?_⟩
      · simp only [weight, sumK, List.length_singleton]
        omega
      · intro b hb
        simp only [List.mem_singleton] at hb
        subst hb
        simp
    have b1 : xs.length * 8 ≤ 140737488355328 := by omega
    have b2 : xs.length ≤ 1152921504606846976 := by omega
    simp only [h1, allOf_up, hput, hl2, b1, b2, beq_self_eq_true, decide_true, true_and, and_true, Bool.true_eq_false, Bool.false_eq_true, false_implies, implies_true, forall_const]
theorem allLaw_ok : Fits E76 f7 (bodyOf f7) allLawLS noAnn := by
  constructor
  rw [← allLaw_eq]
  exact allLaw_vc
theorem f7_has : Has prog 7 f7 (bodyOf f7) := ⟨by kernel_rfl, by kernel_rfl, by kernel_rfl⟩
end Go.Proofs.YtcglahfmnoghjaaDoor

/-! CondAll's call. Conditions: none. -/
namespace Go.Proofs.YtcglahfmnoghjaaDoor
open Go Go.Eng Go.Proofs.Tryd Go.ChangeShapes Go.WideShapes Go.RowKit

theorem slice_of_ok {P : Program} {W : World} {r : Reach} {base : Nat} {t e : TypeId} (ht : P.underlying t = some (.slice e)) {v : Value} (h : Value.okWide P W r base t v) : ∃ a n c, v = .slice a n c := by
  unfold Value.okWide at h
  rw [ht] at h
  change Cell.okWide P W r base t v at h
  cases v with
  | slice a n c => exact ⟨a, n, c, rfl⟩
  | _ => simp [Cell.okWide, Cell.ok, ht] at h
theorem rd_keys {H : Type} {enc : TypeId × Value → H} {w : World} {sp : Nat → Bool} {held : Bool} : RdT enc prog w sp held CC 25 fun sl _ => ∃ ks : List Int, sl = .cell (.rints .i64 ks) .nil := by
  refine RdT.mono (rd_ints underlying25 underlying3 cells3) ?_
  rintro sl d ⟨ks, rfl, _, _⟩
  exact ⟨ks, rfl⟩
theorem all_calls {W : World} {vs : List Value} {xs : List Int} (ha : ArgsR NoO [] W CC [.rints .i64 xs] vs) (hg : Glob GG NoO [] W CC) :
    Calls prog 7 vs.toArray W fun e W' => e = .returned (.bool true) ∧ Below W.heap.size W W' := by
  have hS : Sound E76 := by rw [E76_eq]; exact sound mixed known76
  exact law_calls (ee_P E76_eq) hS f7_has allLaw_ok xs trivial rfl rfl (fun _ _ => Nat.le_refl _) (by rw [ee_C E76_eq]; exact ha) (by rw [ee_GL E76_eq, ee_C E76_eq]; exact hg)
end Go.Proofs.YtcglahfmnoghjaaDoor
