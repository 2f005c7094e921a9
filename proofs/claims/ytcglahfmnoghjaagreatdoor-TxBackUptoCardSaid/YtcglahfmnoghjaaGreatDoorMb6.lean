/- Part 6 of the texts behind the last one: what they say stands ahead of each. Conditions: none. -/
import Derived.Test.YtcglahfmnoghjaaGreatDoorMb5
/-! Bytes and a condition, read back: what is said of them. Conditions: none. -/
namespace Go.Proofs.YtcglahfmnoghjaaGreatDoor
open Go Go.Eng Go.Proofs.Tryz
/-- Told bytes: themselves; what is wrong; how many bytes that takes. -/
def scanB (m : Int) : List Int → List Int → Nat → List Int × Int × Nat
 | [], _, _ => ([], 12, 0)
 | c :: l, out, i => if c = 0 then (match l with
   | [] => ([], 12, 0)
   | d :: l' => if d = 0 then (out, 0, i + 2) else if d ≠ 255 then ([], 3, 0) else if (out.length : Int) = m then ([], 2, 0) else scanB m l' (out ++ [0]) (i + 2))
  else if (out.length : Int) = m then ([], 2, 0) else scanB m l (out ++ [c]) (i + 1)
def bytesR (r : Rd) (m : Int) : List Int × Rd := if r.e ≠ 0 then ([], r) else if (scanB m r.left [] 0).2.1 ≠ 0 then ([], ⟨r.b, r.i, (scanB m r.left [] 0).2.1⟩) else ((scanB m r.left [] 0).1, ⟨r.b, r.i + ((scanB m r.left [] 0).2.2 : Int), 0⟩)
def rdBytesLS : LS AA where
 X := RdN
 pre := RdN.Few
 args := fun x => [.ptr 0 0, .int .i64 x.n]
 hin := fun x => [rcell x.r]
 res := fun x => [.rints .u8 (bytesR x.r x.n).1]
 hout := fun x => [rcell (bytesR x.r x.n).2]
structure ScanX where
 i : Nat
 out : List Int
def rdBytesAnn (x : RdN) : Anns AA := fun _ _ sh => some {
 X := ScanX
 inv := fun y => y.i ≤ x.r.left.length ∧ (y.out.length : Int) ≤ x.n ∧ scanB x.n x.r.left [] 0 = scanB x.n (x.r.left.drop y.i) y.out y.i
 meas := fun y => x.r.left.length - y.i
 slots := fun y => [(7, .int .i64 y.i), (5, .vec (cnt sh))]
 heap := fun _ => []
 more := fun y => [.ivec 5 .u8 y.out] }
def L160 : List (Nat × SpecT AA) := (67, tLent rdBytesLS rdiGet) :: L129
noncomputable def F160 : Eng AA := EF prog L160
theorem F160_eq : F160 = EF prog L160 := by
 unfold F160
 rfl
/-- A condition that a reader takes off. -/
def dC (r : Rd) : List Br × Rd := dBrs (countR r 8).1.toNat (countR r 8).2
def takesLS : LS AA where
 X := Rd
 pre := Rd.Ok
 args := fun _ => [.ptr 0 0]
 hin := fun r => [rcell r]
 res := fun r => [.agg (.cell (.rseq 102 (show List (AA 102) from (dC r).1)) .nil)]
 hout := fun r => [rcell (dC r).2]
def takesAnn (r : Rd) : Anns AA := fun k ts sh => if k = 4 then (match nth ts 3 with
  | some (.ptr j _) => some {
   X := Nat
   inv := fun i => (i : Int) ≤ (countR r 8).1
   meas := fun i => (countR r 8).1.toNat - i
   slots := fun i => [(7, .int .i64 i)]
   heap := fun i => [(0, rcell (dBrs i (countR r 8).2).2), (j, .cells 55 (.cell (.vec (cnt sh)) .nil))]
   more := fun i => [.svec 102 (show List (AA 102) from (dBrs i (countR r 8).2).1)] }
  | _ => none)
 else (match nth ts 4, nth ts 10, rdOf sh (.ptr 0 0) with
  | some (.ptr j _), some (.int _ n), some r => (match nth sh j with
   | some (.cells t (.cell _ rest)) => some {
    X := Nat
    inv := fun i => (i : Int) ≤ n
    meas := fun i => n.toNat - i
    slots := fun i => [(11, .int .i64 i)]
    heap := fun i => [(0, rcell (dKeys i r).2), (j, .cells t (.cell (.vec (cnt sh)) rest))]
    more := fun i => [.ivec 3 .i64 (dKeys i r).1] }
   | _ => none)
  | _, _, _ => none)
def L161 : List (Nat × SpecT AA) := (68, tLent takesLS rdGet) :: L160
end Go.Proofs.YtcglahfmnoghjaaGreatDoor

/-! Bytes and a condition, read back: the walks. Conditions: none. -/
namespace Go.Proofs.YtcglahfmnoghjaaGreatDoor
open Go Go.Eng Go.Proofs.Tryz
theorem scan_last {m : Int} {out : List Int} {i : Nat} : scanB m [0] out i = ([], 12, 0) := by
 unfold scanB
 simp
theorem scan_zero {m d : Int} {l out : List Int} {i : Nat} : scanB m (0 :: d :: l) out i = if d = 0 then (out, 0, i + 2) else if d ≠ 255 then ([], 3, 0) else if (out.length : Int) = m then ([], 2, 0) else scanB m l (out ++ [0]) (i + 2) := by
 rw [scanB.eq_def]
 simp
theorem scan_byte {m c : Int} {l out : List Int} {i : Nat} (h : c ≠ 0) : scanB m (c :: l) out i = if (out.length : Int) = m then ([], 2, 0) else scanB m l (out ++ [c]) (i + 1) := by
 rw [scanB.eq_def]
 simp [h]
theorem bytesR_err {r : Rd} {m n : Int} (he : r.e = 0) (h : scanB m r.left [] 0 = ([], n, 0)) (hn : n ≠ 0) : bytesR r m = ([], ⟨r.b, r.i, n⟩) := by
 unfold bytesR
 rw [if_neg (by simp [he]), h, if_pos hn]
theorem bytesR_fine {r : Rd} {m : Int} {out : List Int} {k : Nat} (he : r.e = 0) (h : scanB m r.left [] 0 = (out, 0, k)) : bytesR r m = (out, ⟨r.b, r.i + (k : Int), 0⟩) := by
 unfold bytesR
 rw [if_neg (by simp [he]), h, if_neg (by simp)]
def rdBytesVC : Prop := ∀ (x : RdN), x.Few → True ∧ ((x.r.b = x.r.b ∧ x.r.i = x.r.i ∧ x.r.e = x.r.e ∧ True) ∧ True) ∧ True ∧ (decide (x.r.e ≠ (0:Int)) = true → (bytesR x.r
 x.n).fst = [] ∧ (((bytesR x.r x.n).snd.b = x.r.b ∧ (bytesR x.r x.n).snd.i = x.r.i ∧ (bytesR x.r x.n).snd.e = x.r.e ∧ True) ∧ True) ∧ True) ∧ (decide
 (x.r.e ≠ (0:Int)) = false → (decide (x.n < (0:Int)) = true → (True ∧ (1:Int) = (1:Int) ∧ (1:Int) ≠ (0:Int)) ∧ ((x.r.b = x.r.b ∧ x.r.i =
 x.r.i ∧ x.r.e = x.r.e ∧ True) ∧ True) ∧ True ∧ (bytesR x.r x.n).fst = [] ∧ (((bytesR x.r x.n).snd.b = x.r.b ∧ (bytesR x.r x.n).snd.i = x.r.i ∧ ((bytesR
 x.r x.n).snd.e = if x.r.e = (0:Int) then (1:Int) else x.r.e) ∧ True) ∧ True) ∧ True) ∧ (decide (x.n < (0:Int)) = false → True ∧ ((x.r.b = x.r.b ∧
 x.r.i = x.r.i ∧ x.r.e = x.r.e ∧ True) ∧ True) ∧ x.r.Ok ∧ (∃ (x_1 : ScanX), (x_1.i ≤ x.r.left.length ∧ (x_1.out.length:Int) ≤ x.n ∧ scanB x.n x.r.left [] (0 :
 Nat) = scanB x.n (List.drop x_1.i x.r.left) x_1.out x_1.i) ∧ ((x_1.i:Int) = (0:Int) ∧ (SV.val (A := AA) (Value.slice none (0:Nat) (0:Nat)) :
 SV AA) = SV.val (A := AA) (Value.slice none (0:Nat) (0:Nat))) ∧ ((x.r.b = x.r.b ∧ x.r.i = x.r.i ∧ x.r.e = x.r.e ∧ True) ∧ True) ∧ x_1.out = [] ∧
 True) ∧ ∀ (x_1 : ScanX), x_1.i ≤ x.r.left.length ∧ (x_1.out.length:Int) ≤ x.n ∧ scanB x.n x.r.left [] (0:Nat) = scanB x.n (List.drop x_1.i
 x.r.left) x_1.out x_1.i → (x.r.left.length:Int) ≤ (9223372036854775807:Int) → (decide ((x_1.i:Int) < (x.r.left.length:Int)) = true → (0 :
 Int) ≤ (x_1.i:Int) ∧ (x_1.i:Int) < (x.r.left.length:Int) ∧ (x_1.i:Int).toNat < x.r.left.length ∧ ((x.r.left.getD (x_1.i:Int).toNat (0 :
 Int) == (0:Int)) = true → inI64 ((x_1.i:Int) + (1:Int)) ∧ ((x.r.left.length:Int) ≤ (9223372036854775807:Int) → (((x_1.i:Int) + (1:Int)
 == (x.r.left.length:Int)) = true → (True ∧ (12:Int) = (12:Int) ∧ (12:Int) ≠ (0:Int)) ∧ ((x.r.b = x.r.b ∧ x.r.i = x.r.i ∧ x.r.e = x.r.e ∧
 True) ∧ True) ∧ True ∧ (bytesR x.r x.n).fst = [] ∧ (((bytesR x.r x.n).snd.b = x.r.b ∧ (bytesR x.r x.n).snd.i = x.r.i ∧ ((bytesR x.r x.n).snd.e = if
 x.r.e = (0:Int) then (12:Int) else x.r.e) ∧ True) ∧ True) ∧ True) ∧ (((x_1.i:Int) + (1:Int) == (x.r.left.length:Int)) = false → (0:Int) ≤
 (x_1.i:Int) + (1:Int) ∧ (x_1.i:Int) + (1:Int) < (x.r.left.length:Int) ∧ ((x_1.i:Int) + (1:Int)).toNat < x.r.left.length ∧
 ((x.r.left.getD ((x_1.i:Int) + (1:Int)).toNat (0:Int) == (0:Int)) = true → inI64 ((x_1.i:Int) + (1:Int) + (1:Int)) ∧ inI64 (x.r.i +
 ((x_1.i:Int) + (1:Int) + (1:Int))) ∧ (bytesR x.r x.n).fst = x_1.out ∧ (((bytesR x.r x.n).snd.b = x.r.b ∧ (bytesR x.r x.n).snd.i = x.r.i +
 ((x_1.i:Int) + (1:Int) + (1:Int)) ∧ (bytesR x.r x.n).snd.e = x.r.e ∧ True) ∧ True) ∧ True) ∧ ((x.r.left.getD ((x_1.i:Int) + (1:Int)).toNat
 (0:Int) == (0:Int)) = false → (0:Int) ≤ (x_1.i:Int) + (1:Int) ∧ (x_1.i:Int) + (1:Int) < (x.r.left.length:Int) ∧ ((x_1.i:Int) + (1
 : Int)).toNat < x.r.left.length ∧ ((x.r.left.getD ((x_1.i:Int) + (1:Int)).toNat (0:Int) != (255:Int)) = true → (True ∧ (3:Int) = (3:Int) ∧
 (3:Int) ≠ (0:Int)) ∧ ((x.r.b = x.r.b ∧ x.r.i = x.r.i ∧ x.r.e = x.r.e ∧ True) ∧ True) ∧ True ∧ (bytesR x.r x.n).fst = [] ∧ (((bytesR x.r x.n).snd.b
 = x.r.b ∧ (bytesR x.r x.n).snd.i = x.r.i ∧ ((bytesR x.r x.n).snd.e = if x.r.e = (0:Int) then (3:Int) else x.r.e) ∧ True) ∧ True) ∧ True) ∧
 ((x.r.left.getD ((x_1.i:Int) + (1:Int)).toNat (0:Int) != (255:Int)) = false → (x_1.out.length:Int) ≤ (9223372036854775807:Int) →
 (((x_1.out.length:Int) == x.n) = true → (True ∧ (2:Int) = (2:Int) ∧ (2:Int) ≠ (0:Int)) ∧ ((x.r.b = x.r.b ∧ x.r.i = x.r.i ∧ x.r.e = x.r.e ∧
 True) ∧ True) ∧ True ∧ (bytesR x.r x.n).fst = [] ∧ (((bytesR x.r x.n).snd.b = x.r.b ∧ (bytesR x.r x.n).snd.i = x.r.i ∧ ((bytesR x.r x.n).snd.e = if
 x.r.e = (0:Int) then (2:Int) else x.r.e) ∧ True) ∧ True) ∧ True) ∧ (((x_1.out.length:Int) == x.n) = false → (x_1.out.length + [x.r.left.getD
 (x_1.i:Int).toNat (0:Int)].length) * (1:Nat) ≤ (140737488355328:Nat) ∧ x_1.out.length + [x.r.left.getD (x_1.i:Int).toNat (0:Int)].length
 ≤ (1152921504606846976:Nat) ∧ inI64 ((x_1.i:Int) + (1:Int) + (1:Int)) ∧ ∃ (y : ScanX), (y.i ≤ x.r.left.length ∧ (y.out.length:Int) ≤ x.n ∧ scanB x.n
 x.r.left [] (0:Nat) = scanB x.n (List.drop y.i x.r.left) y.out y.i) ∧ x.r.left.length - y.i < x.r.left.length - x_1.i ∧ ((y.i:Int) = (↑x_1.i :
 Int) + (1:Int) + (1:Int) ∧ True) ∧ ((x.r.b = x.r.b ∧ x.r.i = x.r.i ∧ x.r.e = x.r.e ∧ True) ∧ True) ∧ y.out = x_1.out ++ [x.r.left.getD (↑x_1.i :
 Int).toNat (0:Int)] ∧ True)))))) ∧ ((x.r.left.getD (x_1.i:Int).toNat (0:Int) == (0:Int)) = false → (x_1.out.length:Int) ≤
 (9223372036854775807:Int) → (((x_1.out.length:Int) == x.n) = true → (True ∧ (2:Int) = (2:Int) ∧ (2:Int) ≠ (0:Int)) ∧ ((x.r.b = x.r.b ∧
 x.r.i = x.r.i ∧ x.r.e = x.r.e ∧ True) ∧ True) ∧ True ∧ (bytesR x.r x.n).fst = [] ∧ (((bytesR x.r x.n).snd.b = x.r.b ∧ (bytesR x.r x.n).snd.i = x.r.i ∧
 ((bytesR x.r x.n).snd.e = if x.r.e = (0:Int) then (2:Int) else x.r.e) ∧ True) ∧ True) ∧ True) ∧ (((x_1.out.length:Int) == x.n) = false →
 (x_1.out.length + [x.r.left.getD (x_1.i:Int).toNat (0:Int)].length) * (1:Nat) ≤ (140737488355328:Nat) ∧ x_1.out.length + [x.r.left.getD
 (x_1.i:Int).toNat (0:Int)].length ≤ (1152921504606846976:Nat) ∧ inI64 ((x_1.i:Int) + (1:Int)) ∧ ∃ (y : ScanX), (y.i ≤ x.r.left.length ∧
 (y.out.length:Int) ≤ x.n ∧ scanB x.n x.r.left [] (0:Nat) = scanB x.n (List.drop y.i x.r.left) y.out y.i) ∧ x.r.left.length - y.i < x.r.left.length
 - x_1.i ∧ ((y.i:Int) = (x_1.i:Int) + (1:Int) ∧ True) ∧ ((x.r.b = x.r.b ∧ x.r.i = x.r.i ∧ x.r.e = x.r.e ∧ True) ∧ True) ∧ y.out = x_1.out ++
 [x.r.left.getD (x_1.i:Int).toNat (0:Int)] ∧ True))) ∧ (decide ((x_1.i:Int) < (x.r.left.length:Int)) = false → (True ∧ (12:Int) = (12 :
 Int) ∧ (12:Int) ≠ (0:Int)) ∧ ((x.r.b = x.r.b ∧ x.r.i = x.r.i ∧ x.r.e = x.r.e ∧ True) ∧ True) ∧ True ∧ (bytesR x.r x.n).fst = [] ∧ (((bytesR x.r
 x.n).snd.b = x.r.b ∧ (bytesR x.r x.n).snd.i = x.r.i ∧ ((bytesR x.r x.n).snd.e = if x.r.e = (0:Int) then (12:Int) else x.r.e) ∧ True) ∧ True) ∧
 True)))
theorem rdBytes_eq : rdBytesVC = fnS F129 f67 (bodyOf f67) rdBytesLS rdBytesAnn := by kernel_rfl
theorem rdBytes_vc : rdBytesVC := by
 rintro ⟨⟨b, i0, e⟩, m⟩ hx
 have hr := hx.r
 have hm := hx.lo
 have hm2 := hx.hi
 simp only at hr hm hm2
 by_cases he : e = 0
 case neg => simp [bytesR, he]
 subst he
 have hl := left_len _ hr
 have hlen := hr.len
 have hlo := hr.lo
 simp only at hl hlen hlo
 have err : ∀ n : Int, n ≠ 0 → scanB m (Rd.mk b i0 0).left [] 0 = ([], n, 0) → (True ∧ n = n ∧ n ≠ 0) ∧ ((b = b ∧ i0 = i0 ∧ (0:Int) = 0 ∧ True) ∧ True) ∧ True ∧ (bytesR (Rd.mk b i0 0) m).fst = [] ∧ (((bytesR (Rd.mk b i0 0) m).snd.b = b ∧ (bytesR (Rd.mk b i0 0) m).snd.i = i0 ∧ ((bytesR (Rd.mk b i0 0) m).snd.e = if (0:Int) = 0 then n else 0) ∧ True) ∧ True) ∧ True := fun n hn h => by
  rw [bytesR_err rfl h hn]
  exact ⟨⟨trivial, rfl, hn⟩, ⟨⟨rfl, rfl, rfl, trivial⟩, trivial⟩, trivial, rfl, ⟨⟨rfl, rfl, rfl, trivial⟩, trivial⟩, trivial⟩
 refine ⟨trivial, ⟨⟨rfl, rfl, rfl, trivial⟩, trivial⟩, trivial, fun h => by simp at h, fun _ => ⟨fun h => by simp at h; omega, fun _ => ⟨trivial, ⟨⟨rfl, rfl, rfl, trivial⟩, trivial⟩, hr, ⟨⟨0, []⟩, ⟨Nat.zero_le _, by simpa using hm, rfl⟩, ⟨rfl, rfl⟩, ⟨⟨rfl, rfl, rfl, trivial⟩, trivial⟩, rfl, trivial⟩, ?_⟩⟩⟩
 rintro y ⟨hi, ho, hs⟩ _
 simp only at hi ho hs
 generalize y.i = i at hi ho hs ⊢
 generalize y.out = out at hi ho hs ⊢
 refine ⟨fun h => ?_, fun h => ?_⟩
 case refine_2 =>
  simp only [decide_eq_false_iff_not] at h
  exact err 12 (by omega) (by rw [hs, List.drop_of_length_le (by omega)]; rfl)
 simp only [decide_eq_true_eq] at h
 have hi' : i < (Rd.mk b i0 0).left.length := by omega
 rw [drop_at hi'] at hs
 refine ⟨by omega, h, hi', fun h0 => ⟨by unfold inI64; omega, fun _ => ⟨fun h1 => ?_, fun h1 => ?_⟩⟩, fun h0 _ => ⟨fun h3 => ?_, fun h3 => ?_⟩⟩
 ·have h0' : (Rd.mk b i0 0).left.getD i 0 = 0 := by simpa using h0
  have h1' : (i : Int) + 1 = (Rd.mk b i0 0).left.length := by simpa using h1
  rw [h0', List.drop_of_length_le (by omega), scan_last] at hs
  exact err 12 (by omega) hs
 ·have h0' : (Rd.mk b i0 0).left.getD i 0 = 0 := by simpa using h0
  have h1' : ¬ (i : Int) + 1 = (Rd.mk b i0 0).left.length := by simpa using h1
  have hj : i + 1 < (Rd.mk b i0 0).left.length := by omega
  have ej : ((i : Int) + 1).toNat = i + 1 := by omega
  rw [h0', drop_at hj, scan_zero] at hs
  rw [ej]
  have a1 : (0:Int) ≤ (i : Int) + 1 := by omega
  have a2 : (i : Int) + 1 < ((Rd.mk b i0 0).left.length : Int) := by omega
  have a3 : inI64 ((i : Int) + 1 + 1) := by unfold inI64; omega
  have a4 : inI64 (i0 + ((i : Int) + 1 + 1)) := by unfold inI64; omega
  refine ⟨a1, a2, hj, fun h2 => ⟨a3, a4, ?_⟩, fun h2 => ⟨a1, a2, hj, fun h3 => ?_, fun h3 _ => ⟨fun h4 => ?_, fun h4 => ?_⟩⟩⟩
  ·have h2' : (Rd.mk b i0 0).left.getD (i + 1) 0 = 0 := by simpa using h2
   rw [if_pos h2'] at hs
   rw [bytesR_fine rfl hs]
   exact ⟨rfl, ⟨⟨rfl, by simp only; omega, rfl, trivial⟩, trivial⟩, trivial⟩
  ·have h2' : ¬ (Rd.mk b i0 0).left.getD (i + 1) 0 = 0 := by simpa using h2
   have h3' : (Rd.mk b i0 0).left.getD (i + 1) 0 ≠ 255 := by simpa using h3
   rw [if_neg h2', if_pos h3'] at hs
   exact err 3 (by omega) hs
  ·have h2' : ¬ (Rd.mk b i0 0).left.getD (i + 1) 0 = 0 := by simpa using h2
   have h3' : ¬ (Rd.mk b i0 0).left.getD (i + 1) 0 ≠ 255 := by simpa using h3
   have h4' : (out.length : Int) = m := by simpa using h4
   rw [if_neg h2', if_neg h3', if_pos h4'] at hs
   exact err 2 (by omega) hs
  ·have h2' : ¬ (Rd.mk b i0 0).left.getD (i + 1) 0 = 0 := by simpa using h2
   have h3' : ¬ (Rd.mk b i0 0).left.getD (i + 1) 0 ≠ 255 := by simpa using h3
   have h4' : ¬ (out.length : Int) = m := by simpa using h4
   rw [if_neg h2', if_neg h3', if_neg h4'] at hs
   refine ⟨by simp only [List.length_singleton]; omega, by simp only [List.length_singleton]; omega, by unfold inI64; omega, ⟨i + 2, out ++ [0]⟩, ⟨by simp only; omega, by simp only [List.length_append, List.length_singleton]; omega, hs⟩, by simp only; omega, ⟨by simp only; omega, trivial⟩, ⟨⟨rfl, rfl, rfl, trivial⟩, trivial⟩, ?_, trivial⟩
   show out ++ [0] = out ++ [(Rd.mk b i0 0).left.getD i 0]
   rw [h0']
 ·have h0' : (Rd.mk b i0 0).left.getD i 0 ≠ 0 := by simpa using h0
  have h3' : (out.length : Int) = m := by simpa using h3
  rw [scan_byte h0', if_pos h3'] at hs
  exact err 2 (by omega) hs
 ·have h0' : (Rd.mk b i0 0).left.getD i 0 ≠ 0 := by simpa using h0
  have h3' : ¬ (out.length : Int) = m := by simpa using h3
  rw [scan_byte h0', if_neg h3'] at hs
  exact ⟨by simp only [List.length_singleton]; omega, by simp only [List.length_singleton]; omega, by unfold inI64; omega, ⟨i + 1, out ++ [(Rd.mk b i0 0).left.getD i 0]⟩, ⟨hi', by simp only [List.length_append, List.length_singleton]; omega, hs⟩, by simp only; omega, ⟨by simp only; omega, trivial⟩, ⟨⟨rfl, rfl, rfl, trivial⟩, trivial⟩, rfl, trivial⟩
theorem rdBytes_ok : Fits F129 f67 (bodyOf f67) rdBytesLS rdBytesAnn := by
 constructor
 rw [← rdBytes_eq]
 exact rdBytes_vc
theorem rdBytes_has : Has prog 67 f67 (bodyOf f67) := ⟨by kernel_rfl, by kernel_rfl, by kernel_rfl⟩
theorem known160 : Known prog L160 := by
 unfold L160
 exact known129.lent mixed rdBytes_has F129_eq rdBytes_ok (fun _ _ => Nat.le_refl _) (fun h => by cases h)
def takesVC : Prop := ∀ (x : Rd), x.Ok → (True ∧ (8:Int) = (8:Int)) ∧ ((x.b = x.b ∧ x.i = x.i ∧ x.e = x.e ∧ True) ∧ True) ∧ (RdN.mk x (8:Int)).Few ∧ (∃ (x_1 : Nat), ((countR x
 (8:Int)).fst - (x_1:Int)).NonNeg ∧ (x_1:Int) = (0:Int) ∧ (((dBrs x_1 (countR x (8:Int)).snd).snd.b = (countR x (8:Int)).snd.b ∧ (dBrs x_1
 (countR x (8:Int)).snd).snd.i = (countR x (8:Int)).snd.i ∧ (dBrs x_1 (countR x (8:Int)).snd).snd.e = (countR x (8:Int)).snd.e ∧ True) ∧
 ((SV.val (A := AA) (Value.slice none (0:Nat) (0:Nat)) : SV AA) = SV.val (A := AA) (Value.slice none (0:Nat) (0:Nat)) ∧ True) ∧ ((SV.val (A :=
 AA) (Value.slice none (0:Nat) (0:Nat)) : SV AA) = SV.val (A := AA) (Value.slice none (0:Nat) (0:Nat)) ∧ True) ∧ True) ∧ (dBrs x_1 (countR x (8
 : Int)).snd).fst = [] ∧ True) ∧ ∀ (x_1 : Nat), ((countR x (8:Int)).fst - (x_1:Int)).NonNeg → (decide ((x_1:Int) < (countR x (8:Int)).fst) =
 true → (True ∧ (16:Int) = (16:Int)) ∧ (((dBrs x_1 (countR x (8:Int)).snd).snd.b = (dBrs x_1 (countR x (8:Int)).snd).snd.b ∧ (dBrs x_1 (countR x
 (8:Int)).snd).snd.i = (dBrs x_1 (countR x (8:Int)).snd).snd.i ∧ (dBrs x_1 (countR x (8:Int)).snd).snd.e = (dBrs x_1 (countR x (8 :
 Int)).snd).snd.e ∧ True) ∧ True) ∧ (RdN.mk (dBrs x_1 (countR x (8:Int)).snd).snd (16:Int)).Few ∧ (∃ (x_2 : Nat), ((countR (dBrs x_1 (countR x (8 :
 Int)).snd).snd (16:Int)).fst - (x_2:Int)).NonNeg ∧ (x_2:Int) = (0:Int) ∧ (((dKeys x_2 (countR (dBrs x_1 (countR x (8:Int)).snd).snd (16 :
 Int)).snd).snd.b = (countR (dBrs x_1 (countR x (8:Int)).snd).snd (16:Int)).snd.b ∧ (dKeys x_2 (countR (dBrs x_1 (countR x (8:Int)).snd).snd (16 :
 Int)).snd).snd.i = (countR (dBrs x_1 (countR x (8:Int)).snd).snd (16:Int)).snd.i ∧ (dKeys x_2 (countR (dBrs x_1 (countR x (8:Int)).snd).snd (16 :
 Int)).snd).snd.e = (countR (dBrs x_1 (countR x (8:Int)).snd).snd (16:Int)).snd.e ∧ True) ∧ ((SV.val (A := AA) (Value.slice none (0:Nat) (0 :
 Nat)) : SV AA) = SV.val (A := AA) (Value.slice none (0:Nat) (0:Nat)) ∧ True) ∧ (True ∧ True) ∧ (dBrs x_1 (countR x (8:Int)).snd).fst = (dBrs x_1
 (countR x (8:Int)).snd).fst ∧ ((SV.val (A := AA) (Value.slice none (0:Nat) (0:Nat)) : SV AA) = SV.val (A := AA) (Value.slice none (0:Nat) (0 :
 Nat)) ∧ List.replicate (32:Nat) (0:Int) = List.replicate (32:Nat) (0:Int) ∧ (0:Int) = (0:Int) ∧ (0:Int) = (0:Int) ∧ True) ∧ True) ∧
 (dKeys x_2 (countR (dBrs x_1 (countR x (8:Int)).snd).snd (16:Int)).snd).fst = [] ∧ True) ∧ ∀ (x_2 : Nat), ((countR (dBrs x_1 (countR x (8 :
 Int)).snd).snd (16:Int)).fst - (x_2:Int)).NonNeg → (decide ((x_2:Int) < (countR (dBrs x_1 (countR x (8:Int)).snd).snd (16:Int)).fst) = true
 → ((True ∧ (16:Int) = (16:Int)) ∧ (((dKeys x_2 (countR (dBrs x_1 (countR x (8:Int)).snd).snd (16:Int)).snd).snd.b = (dKeys x_2 (countR (dBrs
 x_1 (countR x (8:Int)).snd).snd (16:Int)).snd).snd.b ∧ (dKeys x_2 (countR (dBrs x_1 (countR x (8:Int)).snd).snd (16:Int)).snd).snd.i = (dKeys
 x_2 (countR (dBrs x_1 (countR x (8:Int)).snd).snd (16:Int)).snd).snd.i ∧ (dKeys x_2 (countR (dBrs x_1 (countR x (8:Int)).snd).snd (16 :
 Int)).snd).snd.e = (dKeys x_2 (countR (dBrs x_1 (countR x (8:Int)).snd).snd (16:Int)).snd).snd.e ∧ True) ∧ True) ∧ (RdN.mk (dKeys x_2 (countR (dBrs
 x_1 (countR x (8:Int)).snd).snd (16:Int)).snd).snd (16:Int)).Ok ∧ ((dKeys x_2 (countR (dBrs x_1 (countR x (8:Int)).snd).snd (16 :
 Int)).snd).fst.length + [wr IntKind.i64 (uintR (dKeys x_2 (countR (dBrs x_1 (countR x (8:Int)).snd).snd (16:Int)).snd).snd (16:Int)).fst].length)
 * (8:Nat) ≤ (140737488355328:Nat) ∧ (dKeys x_2 (countR (dBrs x_1 (countR x (8:Int)).snd).snd (16:Int)).snd).fst.length + [wr IntKind.i64 (uintR
 (dKeys x_2 (countR (dBrs x_1 (countR x (8:Int)).snd).snd (16:Int)).snd).snd (16:Int)).fst].length ≤ (1152921504606846976:Nat) ∧ inI64 ((↑x_2 :
 Int) + (1:Int)) ∧ ∃ (y : Nat), ((countR (dBrs x_1 (countR x (8:Int)).snd).snd (16:Int)).fst - (y:Int)).NonNeg ∧ (countR (dBrs x_1 (countR x (8 :
 Int)).snd).snd (16:Int)).fst.toNat - y < (countR (dBrs x_1 (countR x (8:Int)).snd).snd (16:Int)).fst.toNat - x_2 ∧ (y:Int) = (x_2:Int) + (1
 : Int) ∧ (((dKeys y (countR (dBrs x_1 (countR x (8:Int)).snd).snd (16:Int)).snd).snd.b = (uintR (dKeys x_2 (countR (dBrs x_1 (countR x (8 :
 Int)).snd).snd (16:Int)).snd).snd (16:Int)).snd.b ∧ (dKeys y (countR (dBrs x_1 (countR x (8:Int)).snd).snd (16:Int)).snd).snd.i = (uintR (dKeys
 x_2 (countR (dBrs x_1 (countR x (8:Int)).snd).snd (16:Int)).snd).snd (16:Int)).snd.i ∧ (dKeys y (countR (dBrs x_1 (countR x (8:Int)).snd).snd
 (16:Int)).snd).snd.e = (uintR (dKeys x_2 (countR (dBrs x_1 (countR x (8:Int)).snd).snd (16:Int)).snd).snd (16:Int)).snd.e ∧ True) ∧ ((SV.val (A
 := AA) (Value.slice none (0:Nat) (0:Nat)) : SV AA) = SV.val (A := AA) (Value.slice none (0:Nat) (0:Nat)) ∧ True) ∧ (True ∧ True) ∧ (dBrs x_1
 (countR x (8:Int)).snd).fst = (dBrs x_1 (countR x (8:Int)).snd).fst ∧ (True ∧ List.replicate (32:Nat) (0:Int) = List.replicate (32:Nat) (0 :
 Int) ∧ (0:Int) = (0:Int) ∧ (0:Int) = (0:Int) ∧ True) ∧ True) ∧ (dKeys y (countR (dBrs x_1 (countR x (8:Int)).snd).snd (16:Int)).snd).fst =
 (dKeys x_2 (countR (dBrs x_1 (countR x (8:Int)).snd).snd (16:Int)).snd).fst ++ [wr IntKind.i64 (uintR (dKeys x_2 (countR (dBrs x_1 (countR x (8 :
 Int)).snd).snd (16:Int)).snd).snd (16:Int)).fst] ∧ True) ∧ (True ∧ (16:Int) = (16:Int)) ∧ (((dKeys x_2 (countR (dBrs x_1 (countR x (8 :
 Int)).snd).snd (16:Int)).snd).snd.b = (dKeys x_2 (countR (dBrs x_1 (countR x (8:Int)).snd).snd (16:Int)).snd).snd.b ∧ (dKeys x_2 (countR (dBrs
 x_1 (countR x (8:Int)).snd).snd (16:Int)).snd).snd.i = (dKeys x_2 (countR (dBrs x_1 (countR x (8:Int)).snd).snd (16:Int)).snd).snd.i ∧ (dKeys
 x_2 (countR (dBrs x_1 (countR x (8:Int)).snd).snd (16:Int)).snd).snd.e = (dKeys x_2 (countR (dBrs x_1 (countR x (8:Int)).snd).snd (16 :
 Int)).snd).snd.e ∧ True) ∧ True) ∧ (RdN.mk (dKeys x_2 (countR (dBrs x_1 (countR x (8:Int)).snd).snd (16:Int)).snd).snd (16:Int)).Ok ∧ ((dKeys x_2
 (countR (dBrs x_1 (countR x (8:Int)).snd).snd (16:Int)).snd).fst.length + [wr IntKind.i64 (uintR (dKeys x_2 (countR (dBrs x_1 (countR x (8 :
 Int)).snd).snd (16:Int)).snd).snd (16:Int)).fst].length) * (8:Nat) ≤ (140737488355328:Nat) ∧ (dKeys x_2 (countR (dBrs x_1 (countR x (8 :
 Int)).snd).snd (16:Int)).snd).fst.length + [wr IntKind.i64 (uintR (dKeys x_2 (countR (dBrs x_1 (countR x (8:Int)).snd).snd (16:Int)).snd).snd (16
 : Int)).fst].length ≤ (1152921504606846976:Nat) ∧ inI64 ((x_2:Int) + (1:Int)) ∧ ∃ (y : Nat), ((countR (dBrs x_1 (countR x (8:Int)).snd).snd (16 :
 Int)).fst - (y:Int)).NonNeg ∧ (countR (dBrs x_1 (countR x (8:Int)).snd).snd (16:Int)).fst.toNat - y < (countR (dBrs x_1 (countR x (8 :
 Int)).snd).snd (16:Int)).fst.toNat - x_2 ∧ (y:Int) = (x_2:Int) + (1:Int) ∧ (((dKeys y (countR (dBrs x_1 (countR x (8:Int)).snd).snd (16 :
 Int)).snd).snd.b = (uintR (dKeys x_2 (countR (dBrs x_1 (countR x (8:Int)).snd).snd (16:Int)).snd).snd (16:Int)).snd.b ∧ (dKeys y (countR (dBrs
 x_1 (countR x (8:Int)).snd).snd (16:Int)).snd).snd.i = (uintR (dKeys x_2 (countR (dBrs x_1 (countR x (8:Int)).snd).snd (16:Int)).snd).snd (16 :
 Int)).snd.i ∧ (dKeys y (countR (dBrs x_1 (countR x (8:Int)).snd).snd (16:Int)).snd).snd.e = (uintR (dKeys x_2 (countR (dBrs x_1 (countR x (8 :
 Int)).snd).snd (16:Int)).snd).snd (16:Int)).snd.e ∧ True) ∧ ((SV.val (A := AA) (Value.slice none (0:Nat) (0:Nat)) : SV AA) = SV.val (A := AA)
 (Value.slice none (0:Nat) (0:Nat)) ∧ True) ∧ (True ∧ True) ∧ (dBrs x_1 (countR x (8:Int)).snd).fst = (dBrs x_1 (countR x (8:Int)).snd).fst ∧
 (True ∧ List.replicate (32:Nat) (0:Int) = List.replicate (32:Nat) (0:Int) ∧ (0:Int) = (0:Int) ∧ (0:Int) = (0:Int) ∧ True) ∧ True) ∧
 (dKeys y (countR (dBrs x_1 (countR x (8:Int)).snd).snd (16:Int)).snd).fst = (dKeys x_2 (countR (dBrs x_1 (countR x (8:Int)).snd).snd (16 :
 Int)).snd).fst ++ [wr IntKind.i64 (uintR (dKeys x_2 (countR (dBrs x_1 (countR x (8:Int)).snd).snd (16:Int)).snd).snd (16:Int)).fst] ∧ True) ∧
 (decide ((x_2:Int) < (countR (dBrs x_1 (countR x (8:Int)).snd).snd (16:Int)).fst) = false → True ∧ (((dKeys x_2 (countR (dBrs x_1 (countR x (8 :
 Int)).snd).snd (16:Int)).snd).snd.b = (dKeys x_2 (countR (dBrs x_1 (countR x (8:Int)).snd).snd (16:Int)).snd).snd.b ∧ (dKeys x_2 (countR (dBrs
 x_1 (countR x (8:Int)).snd).snd (16:Int)).snd).snd.i = (dKeys x_2 (countR (dBrs x_1 (countR x (8:Int)).snd).snd (16:Int)).snd).snd.i ∧ (dKeys
 x_2 (countR (dBrs x_1 (countR x (8:Int)).snd).snd (16:Int)).snd).snd.e = (dKeys x_2 (countR (dBrs x_1 (countR x (8:Int)).snd).snd (16 :
 Int)).snd).snd.e ∧ True) ∧ True) ∧ (dKeys x_2 (countR (dBrs x_1 (countR x (8:Int)).snd).snd (16:Int)).snd).snd.Ok ∧ (True ∧ (1099511627776:Int) =
 (1099511627776:Int)) ∧ (((hashR (dKeys x_2 (countR (dBrs x_1 (countR x (8:Int)).snd).snd (16:Int)).snd).snd).snd.b = (hashR (dKeys x_2 (countR
 (dBrs x_1 (countR x (8:Int)).snd).snd (16:Int)).snd).snd).snd.b ∧ (hashR (dKeys x_2 (countR (dBrs x_1 (countR x (8:Int)).snd).snd (16 :
 Int)).snd).snd).snd.i = (hashR (dKeys x_2 (countR (dBrs x_1 (countR x (8:Int)).snd).snd (16:Int)).snd).snd).snd.i ∧ (hashR (dKeys x_2 (countR (dBrs
 x_1 (countR x (8:Int)).snd).snd (16:Int)).snd).snd).snd.e = (hashR (dKeys x_2 (countR (dBrs x_1 (countR x (8:Int)).snd).snd (16 :
 Int)).snd).snd).snd.e ∧ True) ∧ True) ∧ (RdN.mk (hashR (dKeys x_2 (countR (dBrs x_1 (countR x (8:Int)).snd).snd (16:Int)).snd).snd).snd
 (1099511627776:Int)).Ok ∧ (True ∧ (65536:Int) = (65536:Int)) ∧ (((uintR (hashR (dKeys x_2 (countR (dBrs x_1 (countR x (8:Int)).snd).snd (16 :
 Int)).snd).snd).snd (1099511627776:Int)).snd.b = (uintR (hashR (dKeys x_2 (countR (dBrs x_1 (countR x (8:Int)).snd).snd (16:Int)).snd).snd).snd
 (1099511627776:Int)).snd.b ∧ (uintR (hashR (dKeys x_2 (countR (dBrs x_1 (countR x (8:Int)).snd).snd (16:Int)).snd).snd).snd (1099511627776 :
 Int)).snd.i = (uintR (hashR (dKeys x_2 (countR (dBrs x_1 (countR x (8:Int)).snd).snd (16:Int)).snd).snd).snd (1099511627776:Int)).snd.i ∧ (uintR
 (hashR (dKeys x_2 (countR (dBrs x_1 (countR x (8:Int)).snd).snd (16:Int)).snd).snd).snd (1099511627776:Int)).snd.e = (uintR (hashR (dKeys x_2
 (countR (dBrs x_1 (countR x (8:Int)).snd).snd (16:Int)).snd).snd).snd (1099511627776:Int)).snd.e ∧ True) ∧ True) ∧ (RdN.mk (uintR (hashR (dKeys
 x_2 (countR (dBrs x_1 (countR x (8:Int)).snd).snd (16:Int)).snd).snd).snd (1099511627776:Int)).snd (65536:Int)).Ok ∧ ((dKeys x_2 (countR (dBrs
 x_1 (countR x (8:Int)).snd).snd (16:Int)).snd).fst = (dKeys x_2 (countR (dBrs x_1 (countR x (8:Int)).snd).snd (16:Int)).snd).fst ∧ (hashR
 (dKeys x_2 (countR (dBrs x_1 (countR x (8:Int)).snd).snd (16:Int)).snd).snd).fst = (hashR (dKeys x_2 (countR (dBrs x_1 (countR x (8 :
 Int)).snd).snd (16:Int)).snd).snd).fst ∧ wr IntKind.i64 (uintR (hashR (dKeys x_2 (countR (dBrs x_1 (countR x (8:Int)).snd).snd (16 :
 Int)).snd).snd).snd (1099511627776:Int)).fst = wr IntKind.i64 (uintR (hashR (dKeys x_2 (countR (dBrs x_1 (countR x (8:Int)).snd).snd (16 :
 Int)).snd).snd).snd (1099511627776:Int)).fst ∧ wr IntKind.i64 (uintR (uintR (hashR (dKeys x_2 (countR (dBrs x_1 (countR x (8:Int)).snd).snd (16 :
 Int)).snd).snd).snd (1099511627776:Int)).snd (65536:Int)).fst = wr IntKind.i64 (uintR (uintR (hashR (dKeys x_2 (countR (dBrs x_1 (countR x (8 :
 Int)).snd).snd (16:Int)).snd).snd).snd (1099511627776:Int)).snd (65536:Int)).fst ∧ True) ∧ ((dBrs x_1 (countR x (8:Int)).snd).fst.length +
 [Br.mk (dKeys x_2 (countR (dBrs x_1 (countR x (8:Int)).snd).snd (16:Int)).snd).fst (hashR (dKeys x_2 (countR (dBrs x_1 (countR x (8 :
 Int)).snd).snd (16:Int)).snd).snd).fst (wr IntKind.i64 (uintR (hashR (dKeys x_2 (countR (dBrs x_1 (countR x (8:Int)).snd).snd (16 :
 Int)).snd).snd).snd (1099511627776:Int)).fst) (wr IntKind.i64 (uintR (uintR (hashR (dKeys x_2 (countR (dBrs x_1 (countR x (8:Int)).snd).snd (16 :
 Int)).snd).snd).snd (1099511627776:Int)).snd (65536:Int)).fst)].length) * (72:Nat) ≤ (140737488355328:Nat) ∧ (dBrs x_1 (countR x (8 :
 Int)).snd).fst.length + [Br.mk (dKeys x_2 (countR (dBrs x_1 (countR x (8:Int)).snd).snd (16:Int)).snd).fst (hashR (dKeys x_2 (countR (dBrs x_1
 (countR x (8:Int)).snd).snd (16:Int)).snd).snd).fst (wr IntKind.i64 (uintR (hashR (dKeys x_2 (countR (dBrs x_1 (countR x (8:Int)).snd).snd (16 :
 Int)).snd).snd).snd (1099511627776:Int)).fst) (wr IntKind.i64 (uintR (uintR (hashR (dKeys x_2 (countR (dBrs x_1 (countR x (8:Int)).snd).snd (16 :
 Int)).snd).snd).snd (1099511627776:Int)).snd (65536:Int)).fst)].length ≤ (1152921504606846976:Nat) ∧ inI64 ((x_1:Int) + (1:Int)) ∧ ∃ (y : Nat),
 ((countR x (8:Int)).fst - (y:Int)).NonNeg ∧ (countR x (8:Int)).fst.toNat - y < (countR x (8:Int)).fst.toNat - x_1 ∧ (y:Int) = (x_1:Int)
 + (1:Int) ∧ (((dBrs y (countR x (8:Int)).snd).snd.b = (uintR (uintR (hashR (dKeys x_2 (countR (dBrs x_1 (countR x (8:Int)).snd).snd (16 :
 Int)).snd).snd).snd (1099511627776:Int)).snd (65536:Int)).snd.b ∧ (dBrs y (countR x (8:Int)).snd).snd.i = (uintR (uintR (hashR (dKeys x_2 (countR
 (dBrs x_1 (countR x (8:Int)).snd).snd (16:Int)).snd).snd).snd (1099511627776:Int)).snd (65536:Int)).snd.i ∧ (dBrs y (countR x (8 :
 Int)).snd).snd.e = (uintR (uintR (hashR (dKeys x_2 (countR (dBrs x_1 (countR x (8:Int)).snd).snd (16:Int)).snd).snd).snd (1099511627776:Int)).snd
 (65536:Int)).snd.e ∧ True) ∧ (SV.val (A := AA) (Value.slice none (0:Nat) (0:Nat)) = SV.val (A := AA) (Value.slice none (0:Nat) (0:Nat)) ∧
 True) ∧ (True ∧ True) ∧ True) ∧ (dBrs y (countR x (8:Int)).snd).fst = (dBrs x_1 (countR x (8:Int)).snd).fst ++ [Br.mk (dKeys x_2 (countR (dBrs x_1
 (countR x (8:Int)).snd).snd (16:Int)).snd).fst (hashR (dKeys x_2 (countR (dBrs x_1 (countR x (8:Int)).snd).snd (16:Int)).snd).snd).fst (wr
 IntKind.i64 (uintR (hashR (dKeys x_2 (countR (dBrs x_1 (countR x (8:Int)).snd).snd (16:Int)).snd).snd).snd (1099511627776:Int)).fst) (wr
 IntKind.i64 (uintR (uintR (hashR (dKeys x_2 (countR (dBrs x_1 (countR x (8:Int)).snd).snd (16:Int)).snd).snd).snd (1099511627776:Int)).snd (65536
 : Int)).fst)] ∧ True)) ∧ (decide ((x_1:Int) < (countR x (8:Int)).fst) = false → ((dC x).fst = (dBrs x_1 (countR x (8:Int)).snd).fst ∧ True) ∧
 (((dC x).snd.b = (dBrs x_1 (countR x (8:Int)).snd).snd.b ∧ (dC x).snd.i = (dBrs x_1 (countR x (8:Int)).snd).snd.i ∧ (dC x).snd.e = (dBrs x_1
 (countR x (8:Int)).snd).snd.e ∧ True) ∧ True) ∧ True)
theorem takes_eq : takesVC = fnS F160 f68 (bodyOf f68) takesLS takesAnn := by kernel_rfl
theorem takes_vc : takesVC := by
 intro x h0
 have few : ∀ {r : Rd}, r.Ok → ∀ {m : Int}, 0 ≤ m → m ≤ 1000 → (RdN.mk r m).Few := fun hr m h1 h2 => ⟨⟨hr, h1⟩, by show m ≤ 1000000; omega⟩
 obtain ⟨c1, c2, c3⟩ := countR_ok h0 (m := 8) (by omega)
 refine ⟨⟨trivial, rfl⟩, ⟨⟨rfl, rfl, rfl, trivial⟩, trivial⟩, few h0 (by omega) (by omega), ⟨0, ?_, rfl, ⟨⟨rfl, rfl, rfl, trivial⟩, ⟨rfl, trivial⟩, ⟨rfl, trivial⟩, trivial⟩, rfl, trivial⟩, fun i hi => ⟨fun h1 => ?_, fun h1 => ?_⟩⟩
 ·show ((0:Nat) : Int) ≤ (countR x 8).1
  omega
 ·simp only [decide_eq_true_eq] at h1
  obtain ⟨b1, b2⟩ := brsR_ok c1 i
  obtain ⟨d1, d2, d3⟩ := countR_ok b1 (m := 16) (by omega)
  refine ⟨⟨trivial, rfl⟩, ⟨⟨rfl, rfl, rfl, trivial⟩, trivial⟩, few b1 (by omega) (by omega), ⟨0, ?_, rfl, ⟨⟨rfl, rfl, rfl, trivial⟩, ⟨rfl, trivial⟩, ⟨trivial, trivial⟩, rfl, ⟨rfl, rfl, rfl, rfl, trivial⟩, trivial⟩, rfl, trivial⟩, fun j hj => ⟨fun h2 => both ?_, fun h2 => ?_⟩⟩
  ·show ((0:Nat) : Int) ≤ (countR (dBrs i (countR x 8).2).2 16).1
   omega
  ·simp only [decide_eq_true_eq] at h2
   obtain ⟨k1, k2⟩ := keysR_ok d1 j
   obtain ⟨u1, u2⟩ := uintR_ok k1 (m := 16) (by omega)
   refine ⟨⟨trivial, rfl⟩, ⟨⟨rfl, rfl, rfl, trivial⟩, trivial⟩, ⟨k1, by show (0:Int) ≤ 16; omega⟩, ?_, ?_, by unfold inI64; omega, j + 1, ?_, by omega, by omega, ⟨⟨rfl, rfl, rfl, trivial⟩, ⟨rfl, trivial⟩, ⟨trivial, trivial⟩, rfl, ⟨trivial, rfl, rfl, rfl, trivial⟩, trivial⟩, ?_, trivial⟩
   ·rw [k2]; simp only [List.length_singleton]; omega
   ·rw [k2]; simp only [List.length_singleton]; omega
   ·show ((j + 1 : Nat) : Int) ≤ (countR (dBrs i (countR x 8).2).2 16).1
    omega
   ·rw [wr_small u2 (by omega)]
    rfl
  ·simp only [decide_eq_false_iff_not] at h2
   have hj' : (j : Int) ≤ (countR (dBrs i (countR x 8).2).2 16).1 := hj
   have ej : dKeys j (countR (dBrs i (countR x 8).2).2 16).2 = dK (dBrs i (countR x 8).2).2 := by
    unfold dK
    rw [show (countR (dBrs i (countR x 8).2).2 16).1.toNat = j by omega]
   rw [ej]
   refine ⟨trivial, ⟨⟨rfl, rfl, rfl, trivial⟩, trivial⟩, (kR_ok b1).1, ⟨trivial, rfl⟩, ⟨⟨rfl, rfl, rfl, trivial⟩, trivial⟩, ⟨(hR_ok b1).1, by show (0:Int) ≤ 1099511627776; omega⟩, ⟨trivial, rfl⟩, ⟨⟨rfl, rfl, rfl, trivial⟩, trivial⟩, ⟨(aR_ok b1).1, by show (0:Int) ≤ 65536; omega⟩, ⟨rfl, rfl, rfl, rfl, trivial⟩, ?_, ?_, by unfold inI64; omega, i + 1, ?_, by omega, by omega, ⟨⟨rfl, rfl, rfl, trivial⟩, ⟨rfl, trivial⟩, ⟨trivial, trivial⟩, trivial⟩, ?_, trivial⟩
   ·rw [b2]; simp only [List.length_singleton]; omega
   ·rw [b2]; simp only [List.length_singleton]; omega
   ·show ((i + 1 : Nat) : Int) ≤ (countR x 8).1
    omega
   ·have e1 : wr .i64 (dA (dBrs i (countR x 8).2).2).1 = (dA (dBrs i (countR x 8).2).2).1 := wr_small (aR_ok b1).2 (by omega)
    have e2 : wr .i64 (dO (dBrs i (countR x 8).2).2).1 = (dO (dBrs i (countR x 8).2).2).1 := wr_small (oR_ok b1).2 (by omega)
    show _ = (dBrs i (countR x 8).2).1 ++ [Br.mk _ _ (wr .i64 (dA (dBrs i (countR x 8).2).2).1) (wr .i64 (dO (dBrs i (countR x 8).2).2).1)]
    rw [e1, e2]
    rfl
 ·simp only [decide_eq_false_iff_not] at h1
  have hi' : (i : Int) ≤ (countR x 8).1 := hi
  have ei : dBrs i (countR x 8).2 = dC x := by
   unfold dC
   rw [show (countR x 8).1.toNat = i by omega]
  rw [ei]
  exact ⟨⟨rfl, trivial⟩, ⟨⟨rfl, rfl, rfl, trivial⟩, trivial⟩, trivial⟩
theorem takes_ok : Fits F160 f68 (bodyOf f68) takesLS takesAnn := by
 constructor
 rw [← takes_eq]
 exact takes_vc
theorem takes_has : Has prog 68 f68 (bodyOf f68) := ⟨by kernel_rfl, by kernel_rfl, by kernel_rfl⟩
theorem known161 : Known prog L161 := by
 unfold L161
 exact known160.lent mixed takes_has F160_eq takes_ok (fun _ _ => Nat.le_refl _) (fun h => by cases h)
end Go.Proofs.YtcglahfmnoghjaaGreatDoor

/-! A transaction of bytes; TxBack: what is said of them. Conditions: none. -/
namespace Go.Proofs.YtcglahfmnoghjaaGreatDoor
open Go Go.Eng Go.Proofs.Tryz
theorem Known.pick {P : Program} {l : List (Nat × SpecT AA)} (k : Known P l) (n : Nat) {T : SpecT AA} (h : ttOf l n = T) : Meets P CC GG (qfA n) n T := by
 subst h
 exact k.ok n
theorem Known.over {P : Program} {l l' : List (Nat × SpecT AA)} (k : Known P l) (n : Nat) (T : SpecT AA) (h : ttOf l n = T) (k' : Known P l') : Known P ((n, T) :: l') := .add (k.pick n h) k'
noncomputable def L162 : List (Nat × SpecT AA) := (48, tLent readLS bytesGet1) :: L112
theorem read_at : ttOf L161 48 = tLent readLS bytesGet1 := by
 unfold L161
 rfl
theorem known162 : Known prog L162 := by
 unfold L162
 exact known161.over _ _ read_at known112
noncomputable def L163 : List (Nat × SpecT AA) := (50, tLent rUintLS2 rdnGet) :: L162
theorem uint_here : ttOf L161 50 = tLent rUintLS2 rdnGet := by
 unfold L161
 rfl
theorem known163 : Known prog L163 := by
 unfold L163
 exact known161.over _ _ uint_here known162
noncomputable def L164 : List (Nat × SpecT AA) := (49, tLent countLS rdiGet) :: L163
theorem count_here : ttOf L161 49 = tLent countLS rdiGet := by
 unfold L161
 rfl
theorem known164 : Known prog L164 := by
 unfold L164
 exact known161.over _ _ count_here known163
noncomputable def L165 : List (Nat × SpecT AA) := (51, tLent rHashLS2 rdGet) :: L164
theorem hash_here : ttOf L161 51 = tLent rHashLS2 rdGet := by
 unfold L161
 rfl
theorem known165 : Known prog L165 := by
 unfold L165
 exact known161.over _ _ hash_here known164
noncomputable def L166 : List (Nat × SpecT AA) := (52, tLent rDoneLS rdGet) :: L165
theorem done_here : ttOf L161 52 = tLent rDoneLS rdGet := by
 unfold L161
 rfl
theorem known166 : Known prog L166 := by
 unfold L166
 exact known161.over _ _ done_here known165
noncomputable def L167 : List (Nat × SpecT AA) := (67, tLent rdBytesLS rdiGet) :: L166
theorem bytes_here : ttOf L161 67 = tLent rdBytesLS rdiGet := by
 unfold L161
 rfl
theorem known167 : Known prog L167 := by
 unfold L167
 exact known161.over _ _ bytes_here known166
noncomputable def L168 : List (Nat × SpecT AA) := (68, tLent takesLS rdGet) :: L167
theorem takes_here : ttOf L161 68 = tLent takesLS rdGet := by
 unfold L161
 rfl
theorem known168 : Known prog L168 := by
 unfold L168
 exact known161.over _ _ takes_here known167
noncomputable def F168 : Eng AA := EF prog L168
theorem F168_eq : F168 = EF prog L168 := by
 unfold F168
 rfl
def dIn (r : Rd) : TIn × Rd := (⟨(hashR r).1, (uintR (hashR r).2 64).1, (uintR (uintR (hashR r).2 64).2 8).1, (bytesR (uintR (uintR (hashR r).2 64).2 8).2 64).1⟩, (bytesR (uintR (uintR (hashR r).2 64).2 8).2 64).2)
def dIns : Nat → Rd → List TIn × Rd
 | 0, r => ([], r)
 | k + 1, r => ((dIns k r).1 ++ [(dIn (dIns k r).2).1], (dIn (dIns k r).2).2)
def dOut (r : Rd) : TOut × Rd := (⟨(uintR r 1125899906842624).1, (dC (uintR r 1125899906842624).2).1⟩, (dC (uintR r 1125899906842624).2).2)
def dOuts : Nat → Rd → List TOut × Rd
 | 0, r => ([], r)
 | k + 1, r => ((dOuts k r).1 ++ [(dOut (dOuts k r).2).1], (dOut (dOuts k r).2).2)
def dLock (b : List Int) : Int × Rd := uintR ⟨b, 0, 0⟩ 1099511627776
def dN (b : List Int) : Int × Rd := countR (dLock b).2 64
def dI (b : List Int) : List TIn × Rd := dIns (dN b).1.toNat (dN b).2
def dM (b : List Int) : Int × Rd := countR (dI b).2 64
def dU (b : List Int) : List TOut × Rd := dOuts (dM b).1.toNat (dM b).2
def dTx (b : List Int) : TxD := ⟨(dLock b).1, (dI b).1, (dU b).1⟩
noncomputable def decTxOk (b : List Int) : Bool := decide (doneR (dU b).2 = 0) && decide (checkT (dTx b) = 0)
noncomputable def decTxB (b : List Int) : TxD := if decTxOk b then dTx b else ⟨0, [], []⟩
noncomputable def decTxE (b : List Int) : Int := if decTxOk b then 0 else 3
noncomputable def decTxLS : LS AA where
 X := List Int
 pre := DecIn
 args := fun b => [.rints .u8 b]
 hin := fun _ => []
 res := fun b => [.agg (txSL (decTxB b)), .err 111 (decTxE b)]
 hout := fun _ => []
def decTxAnn (b : List Int) : Anns AA := fun k ts sh => match nth ts 5 with
 | some (.ptr j _) => (match nth sh j with
  | some (.cells t (.cell lk (.cell ins rest))) => if k = 5 then some {
    X := Nat
    inv := fun i => (i : Int) ≤ (dN b).1
    meas := fun i => (dN b).1.toNat - i
    slots := fun i => [(15, .int .i64 i)]
    heap := fun i => [(1, rcell (dIns i (dN b).2).2), (j, .cells t (.cell lk (.cell (.vec (cnt sh)) rest)))]
    more := fun i => [.svec 87 (show List (AA 87) from (dIns i (dN b).2).1)] }
   else some {
    X := Nat
    inv := fun i => (i : Int) ≤ (dM b).1
    meas := fun i => (dM b).1.toNat - i
    slots := fun i => [(38, .int .i64 i)]
    heap := fun i => [(1, rcell (dOuts i (dM b).2).2), (j, .cells t (.cell lk (.cell ins (.cell (.vec (cnt sh)) .nil))))]
    more := fun i => [.svec 90 (show List (AA 90) from (dOuts i (dM b).2).1)] }
  | _ => none)
 | _ => none
noncomputable def L169 : List (Nat × SpecT AA) := (29, tLent decTxLS bytesGet1) :: L168
noncomputable def F169 : Eng AA := EF prog L169
theorem F169_eq : F169 = EF prog L169 := by
 unfold F169
 rfl
structure TxIn (x : TIn) : Prop where
 tx : x.tx.length = 32 ∧ Byt x.tx
 n : inI64 x.n
 branch : inI64 x.branch
 sec : x.secret.length ≤ 2000000
 bytes : Byt x.secret
structure TxOut (o : TOut) : Prop where
 amount : inI64 o.amount
 cond : ∀ b, b ∈ o.cond → BrIn b ∧ Byt b.lock
 few : o.cond.length ≤ 1000000000
structure TxWf (t : TxD) : Prop where
 small : Small t
 enc : EncOk t
 lock : inI64 t.lock
 ins : ∀ x, x ∈ t.ins → TxIn x
 outs : ∀ o, o ∈ t.outs → TxOut o
noncomputable def txBackLS : LS AA where
 X := TxD
 pre := TxWf
 args := fun t => [.agg (txRSL t)]
 hin := fun _ => []
 res := fun _ => [.sb 0 true]
 hout := fun _ => []
end Go.Proofs.YtcglahfmnoghjaaGreatDoor

/-! A transaction made of its own bytes, plainly. Conditions: none. -/
namespace Go.Proofs.YtcglahfmnoghjaaGreatDoor
open Go Go.Eng Go.Proofs.Tryz
theorem scan_at {m : Int} (l : List Int) : ∀ (s out : List Int) (i : Nat), (out.length : Int) ≤ m →
  scanB m (stuffB s ++ (0 :: 0 :: l)) out i = if (out.length : Int) + s.length ≤ m then (out ++ s, 0, i + (stuffB s).length + 2) else ([], 2, 0)
 | [], out, i, h => by
  rw [if_pos (by simpa using h)]
  show scanB m (0 :: 0 :: l) out i = _
  rw [scan_zero]
  simp [stuffB]
 | c :: s, out, i, h => by
  by_cases hc : c = 0
  ·subst hc
   have e : stuffB (0 :: s) ++ (0 :: 0 :: l) = 0 :: 255 :: (stuffB s ++ (0 :: 0 :: l)) := by simp [stuffB]
   rw [e]
   have e2 : scanB m (0 :: 255 :: (stuffB s ++ (0 :: 0 :: l))) out i = if (out.length : Int) = m then ([], 2, 0) else scanB m (stuffB s ++ (0 :: 0 :: l)) (out ++ [0]) (i + 2) := by
    rw [scan_zero]
    simp
   rw [e2]
   by_cases hm : (out.length : Int) = m
   ·rw [if_pos hm, if_neg (by simp only [List.length_cons]; omega)]
   ·rw [if_neg hm, scan_at l s (out ++ [0]) (i + 2) (by simp only [List.length_append, List.length_cons, List.length_nil]; omega)]
    have e3 : (((out ++ [0]).length : Nat) : Int) + s.length = out.length + ((0 :: s).length : Nat) := by simp only [List.length_append, List.length_cons, List.length_nil]; omega
    have e4 : i + 2 + (stuffB s).length + 2 = i + (stuffB (0 :: s)).length + 2 := by simp [stuffB]; omega
    rw [e3, e4]
    simp
  ·have e : stuffB (c :: s) ++ (0 :: 0 :: l) = c :: (stuffB s ++ (0 :: 0 :: l)) := by simp [stuffB, hc]
   rw [e]
   have e2 : scanB m (c :: (stuffB s ++ (0 :: 0 :: l))) out i = if (out.length : Int) = m then ([], 2, 0) else scanB m (stuffB s ++ (0 :: 0 :: l)) (out ++ [c]) (i + 1) := scan_byte hc
   rw [e2]
   by_cases hm : (out.length : Int) = m
   ·rw [if_pos hm, if_neg (by simp only [List.length_cons]; omega)]
   ·rw [if_neg hm, scan_at l s (out ++ [c]) (i + 1) (by simp only [List.length_append, List.length_cons, List.length_nil]; omega)]
    have e3 : (((out ++ [c]).length : Nat) : Int) + s.length = out.length + ((c :: s).length : Nat) := by simp only [List.length_append, List.length_cons, List.length_nil]; omega
    have e4 : i + 1 + (stuffB s).length + 2 = i + (stuffB (c :: s)).length + 2 := by simp [stuffB, hc]; omega
    rw [e3, e4]
    simp
theorem bytes_at {r : Rd} {s l : List Int} {m : Int} (h : At r (bytesB s ++ l)) (hm : 0 ≤ m) : ((s.length : Int) ≤ m ∧ (bytesR r m).1 = s ∧ At (bytesR r m).2 l) ∨ (m < (s.length : Int) ∧ (bytesR r m).2.e ≠ 0) := by
 have e : scanB m (stuffB s ++ (0 :: 0 :: l)) [] 0 = if (s.length : Int) ≤ m then (s, 0, (stuffB s).length + 2) else ([], 2, 0) := by
  have := scan_at (m := m) l s [] 0 (by simpa using hm)
  simpa using this
 have el : r.left = stuffB s ++ (0 :: 0 :: l) := by rw [h.left]; simp [bytesB]
 by_cases hs : (s.length : Int) ≤ m
 ·rw [if_pos hs] at e
  rw [bytesR_fine h.e (el ▸ e)]
  refine .inl ⟨hs, rfl, ?_⟩
  have := h.step
  have e2 : ((bytesB s).length : Int) = (((stuffB s).length + 2 : Nat) : Int) := by simp [bytesB]
  rw [e2] at this
  exact this
 ·rw [if_neg hs] at e
  rw [bytesR_err h.e (el ▸ e) (by omega)]
  exact .inr ⟨by omega, by simp⟩
theorem bytes_dead {r : Rd} {m : Int} (h : r.e ≠ 0) : (bytesR r m).2 = r := by unfold bytesR; rw [if_pos h]
theorem in_dead1 {r : Rd} (h : (uintR (hashR r).2 64).2.e ≠ 0) : (dIn r).2.e ≠ 0 := by
 show (bytesR (uintR (uintR (hashR r).2 64).2 8).2 64).2.e ≠ 0
 rw [uint_dead h, bytes_dead h]; exact h
theorem in_dead2 {r : Rd} (h : (uintR (uintR (hashR r).2 64).2 8).2.e ≠ 0) : (dIn r).2.e ≠ 0 := by
 show (bytesR (uintR (uintR (hashR r).2 64).2 8).2 64).2.e ≠ 0
 rw [bytes_dead h]; exact h
theorem in_dead {r : Rd} (h : r.e ≠ 0) : (dIn r).2.e ≠ 0 := in_dead1 (by rw [hash_dead h, uint_dead h]; exact h)
theorem inOk_of {x : TIn} (h : inOk x = true) : 0 ≤ x.n ∧ x.n < 64 ∧ 0 ≤ x.branch ∧ x.branch < 8 ∧ (x.secret.length : Int) ≤ 64 := by
 simpa [inOk, Bool.and_eq_true, decide_eq_true_eq] using h
theorem inOk_not {x : TIn} (h : ¬ inOk x = true) : inOk x = false := by
 cases e : inOk x with
 | true => exact (h e).elim
 | false => rfl
theorem in_at {r : Rd} {x : TIn} {l : List Int} (h : At r (inB (fun y => y.secret) x ++ l)) (hx : TxIn x) : ((dIn r).1 = x ∧ At (dIn r).2 l) ∨ (inOk x = false ∧ (dIn r).2.e ≠ 0) := by
 unfold inB at h
 simp only [List.append_assoc] at h
 obtain ⟨h1, h2⟩ := hash_at h hx.tx.1
 obtain ⟨n1, n2⟩ := u64_i64 (m := 64) hx.n (by omega) (by omega)
 rcases uint_at (m := 64) h2 (u64_wr _) with ⟨h3, h4, h5⟩ | ⟨h3, h4⟩
 ·obtain ⟨b1, b2⟩ := u64_i64 (m := 8) hx.branch (by omega) (by omega)
  rcases uint_at (m := 8) h5 (u64_wr _) with ⟨h6, h7, h8⟩ | ⟨h6, h7⟩
  ·rcases bytes_at (m := 64) h8 (by omega) with ⟨h9, h10, h11⟩ | ⟨h9, h10⟩
   ·refine .inl ⟨?_, h11⟩
    show TIn.mk (hashR r).1 (uintR (hashR r).2 64).1 (uintR (uintR (hashR r).2 64).2 8).1 (bytesR (uintR (uintR (hashR r).2 64).2 8).2 64).1 = x
    rw [h1, h4, h7, h10, (n1 h3).1, (b1 h6).1]
   ·exact .inr ⟨inOk_not fun h => by
     have := inOk_of h
     omega, h10⟩
  ·exact .inr ⟨inOk_not fun h => by
    have := inOk_of h
    have := b2 h6
    omega, in_dead2 h7⟩
 ·exact .inr ⟨inOk_not fun h => by
   have := inOk_of h
   have := n2 h3
   omega, in_dead1 h4⟩
theorem ins_at {r : Rd} {xs : List TIn} {l : List Int} (h : At r (insB (fun y => y.secret) xs ++ l)) (hb : ∀ x, x ∈ xs → TxIn x) : ∀ k, k ≤ xs.length →
  ((dIns k r).1 = xs.take k ∧ At (dIns k r).2 (insB (fun y => y.secret) (xs.drop k) ++ l)) ∨ ((∃ x, x ∈ xs ∧ inOk x = false) ∧ (dIns k r).2.e ≠ 0)
 | 0, _ => .inl ⟨rfl, h⟩
 | k + 1, hl => by
  have hk : k < xs.length := by omega
  rcases ins_at h hb k (by omega) with ⟨h1, h2⟩ | ⟨h1, h2⟩
  ·have hd : xs.drop k = xs[k] :: xs.drop (k + 1) := List.drop_eq_getElem_cons hk
   have hm : xs[k] ∈ xs := List.getElem_mem _
   rw [hd] at h2
   simp only [insB, List.append_assoc] at h2
   rcases in_at h2 (hb _ hm) with ⟨h3, h4⟩ | ⟨h3, h4⟩
   ·refine .inl ⟨?_, h4⟩
    show (dIns k r).1 ++ [(dIn (dIns k r).2).1] = _
    rw [h1, h3, List.take_add_one, List.getElem?_eq_getElem hk]
    rfl
   ·exact .inr ⟨⟨_, hm, h3⟩, h4⟩
  ·exact .inr ⟨h1, in_dead h2⟩
theorem brs_dead {r : Rd} (h : r.e ≠ 0) : ∀ k, (dBrs k r).2.e ≠ 0
 | 0 => h
 | k + 1 => br_dead (brs_dead h k)
theorem dC_dead {r : Rd} (h : r.e ≠ 0) : (dC r).2.e ≠ 0 := by
 unfold dC
 rw [count_dead h]
 exact brs_dead h _
theorem out_dead1 {r : Rd} (h : (uintR r 1125899906842624).2.e ≠ 0) : (dOut r).2.e ≠ 0 := dC_dead h
theorem out_dead {r : Rd} (h : r.e ≠ 0) : (dOut r).2.e ≠ 0 := out_dead1 (by rw [uint_dead h]; exact h)
theorem tout_at {r : Rd} {o : TOut} {l : List Int} (h : At r (toutB o ++ l)) (ho : TxOut o) : ((dOut r).1 = o ∧ At (dOut r).2 l) ∨ (outE o ≠ 0 ∧ (dOut r).2.e ≠ 0) := by
 unfold toutB at h
 simp only [List.append_assoc] at h
 obtain ⟨a1, a2⟩ := u64_i64 (m := 1125899906842624) ho.amount (by omega) (by omega)
 rcases uint_at (m := 1125899906842624) h (u64_wr _) with ⟨h3, h4, h5⟩ | ⟨h3, h4⟩
 ·rcases conds_at h5 (fun b hb => (ho.cond b hb).1) ho.few with ⟨h6, h7⟩ | ⟨h6, h7⟩
  ·refine .inl ⟨?_, h7⟩
   show TOut.mk (uintR r 1125899906842624).1 (dC (uintR r 1125899906842624).2).1 = o
   rw [h4, (a1 h3).1, show (dC (uintR r 1125899906842624).2).1 = o.cond from h6]
  ·refine .inr ⟨?_, h7⟩
   unfold outE
   rw [checkN_not h6]
   split
   ·omega
   ·split <;> omega
 ·refine .inr ⟨?_, out_dead1 h4⟩
  have := a2 h3
  unfold outE
  split
  ·omega
  ·split
   ·omega
   ·omega
theorem outs_at {r : Rd} {os : List TOut} {l : List Int} (h : At r (toutsB os ++ l)) (hb : ∀ o, o ∈ os → TxOut o) : ∀ k, k ≤ os.length →
  ((dOuts k r).1 = os.take k ∧ At (dOuts k r).2 (toutsB (os.drop k) ++ l)) ∨ ((∃ o, o ∈ os ∧ outE o ≠ 0) ∧ (dOuts k r).2.e ≠ 0)
 | 0, _ => .inl ⟨rfl, h⟩
 | k + 1, hl => by
  have hk : k < os.length := by omega
  rcases outs_at h hb k (by omega) with ⟨h1, h2⟩ | ⟨h1, h2⟩
  ·have hd : os.drop k = os[k] :: os.drop (k + 1) := List.drop_eq_getElem_cons hk
   have hm : os[k] ∈ os := List.getElem_mem _
   rw [hd] at h2
   simp only [toutsB, List.append_assoc] at h2
   rcases tout_at h2 (hb _ hm) with ⟨h3, h4⟩ | ⟨h3, h4⟩
   ·refine .inl ⟨?_, h4⟩
    show (dOuts k r).1 ++ [(dOut (dOuts k r).2).1] = _
    rw [h1, h3, List.take_add_one, List.getElem?_eq_getElem hk]
    rfl
   ·exact .inr ⟨⟨_, hm, h3⟩, h4⟩
  ·exact .inr ⟨h1, out_dead h2⟩
theorem insB_ge : ∀ {xs : List TIn}, (∀ x, x ∈ xs → TxIn x) → xs.length ≤ (insB (fun y => y.secret) xs).length
 | [], _ => Nat.le_refl _
 | x :: l, h => by
  have h1 := insB_ge fun y hy => h y (List.mem_cons_of_mem _ hy)
  have h2 := (h x List.mem_cons_self).tx.1
  simp only [insB, inB, List.length_append, List.length_cons]
  omega
theorem toutsB_ge : ∀ os : List TOut, os.length ≤ (toutsB os).length
 | [] => Nat.le_refl _
 | o :: l => by
  have h1 := toutsB_ge l
  simp only [toutsB, toutB, uintB, List.length_append, List.length_cons]
  omega
theorem badIn_of : ∀ {l : List TIn} {x : TIn}, x ∈ l → inOk x = false → ∀ k, badIn l k ≥ 0
 | y :: l, x, h, hx, k => by
  simp only [badIn]
  split
  ·rename_i hy
   rcases List.mem_cons.1 h with e | e
   ·rw [e] at hx
    rw [hx] at hy
    cases hy
   ·exact badIn_of e hx (k + 1)
  ·omega
theorem outsE_of : ∀ {l : List TOut} {o : TOut}, o ∈ l → outE o ≠ 0 → outsE l ≠ 0
 | y :: l, o, h, ho => by
  simp only [outsE]
  split
  ·rename_i hy
   rcases List.mem_cons.1 h with e | e
   ·rw [e] at ho
    exact (ho hy).elim
   ·exact outsE_of e ho
  ·assumption
theorem check_four {t : TxD} (h : t.lock < 0 ∨ t.lock > 1099511627776 ∨ someB t.ins.length = false ∨ someB t.outs.length = false ∨ badIn t.ins 0 ≥ 0) : checkT t ≠ 0 := by
 unfold checkT
 rw [if_pos h]
 omega
theorem check_outs {t : TxD} (h : outsE t.outs ≠ 0) : checkT t ≠ 0 := by
 unfold checkT
 split
 ·omega
 split
 ·omega
 ·simp only [ne_eq, h, not_false_eq_true, if_true]
theorem some_not {n : Nat} (h : 64 < (n : Int)) : someB (n : Int) = false := by
 unfold someB
 rw [decide_eq_false (p := (n : Int) ≤ 64) (by omega), Bool.and_false]
theorem ins_dead {r : Rd} (h : r.e ≠ 0) : ∀ k, (dIns k r).2.e ≠ 0
 | 0 => h
 | k + 1 => in_dead (ins_dead h k)
theorem outs_dead {r : Rd} (h : r.e ≠ 0) : ∀ k, (dOuts k r).2.e ≠ 0
 | 0 => h
 | k + 1 => out_dead (outs_dead h k)
theorem dU_dead3 {b : List Int} (h : (dM b).2.e ≠ 0) : (dU b).2.e ≠ 0 := outs_dead h _
theorem dU_dead2 {b : List Int} (h : (dI b).2.e ≠ 0) : (dU b).2.e ≠ 0 := dU_dead3 (by unfold dM; rw [count_dead h]; exact h)
theorem dU_dead1 {b : List Int} (h : (dN b).2.e ≠ 0) : (dU b).2.e ≠ 0 := dU_dead2 (ins_dead h _)
theorem dU_dead0 {b : List Int} (h : (dLock b).2.e ≠ 0) : (dU b).2.e ≠ 0 := dU_dead1 (by unfold dN; rw [count_dead h]; exact h)
theorem tx_at {b : List Int} {t : TxD} (h : At ⟨b, 0, 0⟩ (putTx (fun y => y.secret) t ++ [])) (hl : inI64 t.lock) (hi : ∀ x, x ∈ t.ins → TxIn x) (ho : ∀ o, o ∈ t.outs → TxOut o) (n1 : t.ins.length ≤ 1000000000) (n2 : t.outs.length ≤ 1000000000) :
  (dTx b = t ∧ At (dU b).2 []) ∨ (checkT t ≠ 0 ∧ (dU b).2.e ≠ 0) := by
 unfold putTx at h
 simp only [List.append_assoc] at h
 obtain ⟨l1, l2⟩ := u64_i64 (m := 1099511627776) hl (by omega) (by omega)
 rcases uint_at (m := 1099511627776) h (u64_wr _) with ⟨h1, h2, h3⟩ | ⟨h1, h2⟩
 case inr => exact .inr ⟨check_four (by have := l2 h1; omega), dU_dead0 h2⟩
 have w1 := u64_len n1
 rcases count_at (m := 64) h3 (u64_wr _) (fun _ => by
  have := insB_ge hi
  rw [w1]
  simp only [List.length_append]
  omega) with ⟨h4, h5, h6⟩ | ⟨h4, h5⟩
 case inr => exact .inr ⟨check_four (.inr (.inr (.inl (some_not (by omega))))), dU_dead1 h5⟩
 rw [w1] at h5
 have e1 : dI b = dIns t.ins.length (dN b).2 := by
  unfold dI
  rw [show (dN b).1 = (t.ins.length : Int) from h5, Int.toNat_natCast]
 rcases ins_at h6 hi t.ins.length (Nat.le_refl _) with ⟨h7, h8⟩ | ⟨⟨x, hx, h7⟩, h8⟩
 case inr =>
  refine .inr ⟨check_four (.inr (.inr (.inr (.inr (badIn_of hx h7 0))))), dU_dead2 ?_⟩
  rw [e1]; exact h8
 rw [List.take_length] at h7
 rw [List.drop_length] at h8
 change (dIns t.ins.length (dN b).2).1 = _ at h7
 change At (dIns t.ins.length (dN b).2).2 _ at h8
 rw [← e1] at h7 h8
 simp only [insB, List.nil_append] at h8
 have w2 := u64_len n2
 rcases count_at (m := 64) h8 (u64_wr _) (fun _ => by
  have := toutsB_ge t.outs
  rw [w2]
  simp only [List.length_append]
  omega) with ⟨h9, h10, h11⟩ | ⟨h9, h10⟩
 case inr => exact .inr ⟨check_four (.inr (.inr (.inr (.inl (some_not (by omega)))))), dU_dead3 h10⟩
 rw [w2] at h10
 have e2 : dU b = dOuts t.outs.length (dM b).2 := by
  unfold dU
  rw [show (dM b).1 = (t.outs.length : Int) from h10, Int.toNat_natCast]
 rcases outs_at h11 ho t.outs.length (Nat.le_refl _) with ⟨h12, h13⟩ | ⟨⟨x, hx, h12⟩, h13⟩
 case inr =>
  refine .inr ⟨check_outs (outsE_of hx h12), ?_⟩
  rw [e2]; exact h13
 rw [List.take_length] at h12
 rw [List.drop_length] at h13
 change (dOuts t.outs.length (dM b).2).1 = _ at h12
 change At (dOuts t.outs.length (dM b).2).2 _ at h13
 rw [← e2] at h12 h13
 refine .inl ⟨?_, by simpa [toutsB] using h13⟩
 unfold dTx
 rw [h7, h12, show (dLock b).1 = _ from h2, (l1 h1).1]
theorem decTx_put {t : TxD} (hl : inI64 t.lock) (hi : ∀ x, x ∈ t.ins → TxIn x) (ho : ∀ o, o ∈ t.outs → TxOut o) (n1 : t.ins.length ≤ 1000000000) (n2 : t.outs.length ≤ 1000000000) (hb : Byt (putTx (fun y => y.secret) t)) (hn : (putTx (fun y => y.secret) t).length ≤ 1000000000000) :
  decTxB (putTx (fun y => y.secret) t) = (if checkT t = 0 then t else ⟨0, [], []⟩) ∧ decTxE (putTx (fun y => y.secret) t) = (if checkT t = 0 then 0 else 3) := by
 have h0 : At ⟨putTx (fun y => y.secret) t, 0, 0⟩ (putTx (fun y => y.secret) t ++ []) := ⟨⟨hb, by show (0:Int) ≤ 0; omega, by show (0:Int) ≤ _; omega, hn⟩, rfl, by
  rw [List.append_nil]
  rfl⟩
 have hd : decTxOk (putTx (fun y => y.secret) t) = decide (checkT t = 0) ∧ (checkT t = 0 → dTx (putTx (fun y => y.secret) t) = t) := by
  unfold decTxOk
  rcases tx_at h0 hl hi ho n1 n2 with ⟨h1, h2⟩ | ⟨h1, h2⟩
  ·rw [h1]
   refine ⟨?_, fun _ => rfl⟩
   have h3 := left_len _ h2.ok
   rw [h2.left] at h3
   simp only [List.length_nil] at h3
   unfold doneR
   rw [if_neg (by simp [h2.e]), if_neg (by omega)]
   rfl
  ·refine ⟨?_, fun h => (h1 h).elim⟩
   unfold doneR
   rw [if_pos h2, decide_eq_false h2, decide_eq_false h1]
   rfl
 unfold decTxB decTxE
 rw [hd.1]
 by_cases h : checkT t = 0
 ·rw [decide_eq_true h, if_pos h, if_pos h]
  exact ⟨hd.2 h, rfl⟩
 ·rw [decide_eq_false h, if_neg h, if_neg h]
  exact ⟨rfl, rfl⟩
end Go.Proofs.YtcglahfmnoghjaaGreatDoor

/-! A transaction of bytes; TxBack: the walks. Conditions: none. -/
namespace Go.Proofs.YtcglahfmnoghjaaGreatDoor
open Go Go.Eng Go.Proofs.Tryz
theorem scan_le {m : Int} : ∀ (n : Nat) (l out : List Int) (i : Nat), l.length ≤ n → (scanB m l out i).2.1 = 0 → (scanB m l out i).2.2 ≤ i + l.length := by
 intro n
 induction n with
 | zero =>
  intro l out i hl h
  have e : l = [] := List.eq_nil_of_length_eq_zero (by omega)
  subst e
  simp [scanB] at h
 | succ n ih =>
  intro l out i hl h
  cases l with
  | nil => simp [scanB] at h
  | cons c l =>
   simp only [List.length_cons] at hl ⊢
   by_cases hc : c = 0
   ·subst hc
    cases l with
    | nil =>
     rw [scan_last] at h
     simp at h
    | cons d l =>
     simp only [List.length_cons] at hl ⊢
     rw [scan_zero] at h ⊢
     split
     ·simp only; omega
     ·rename_i h1
      rw [if_neg h1] at h
      split
      ·simp only; omega
      ·rename_i h2
       rw [if_neg h2] at h
       split
       ·simp only; omega
       ·rename_i h3
        rw [if_neg h3] at h
        have := ih l (out ++ [0]) (i + 2) (by omega) h
        omega
   ·rw [scan_byte hc] at h ⊢
    split
    ·simp only; omega
    ·rename_i h3
     rw [if_neg h3] at h
     have := ih l (out ++ [c]) (i + 1) (by omega) h
     omega
theorem bytesR_ok {r : Rd} (h : r.Ok) {m : Int} : (bytesR r m).2.Ok := by
 unfold bytesR
 split
 ·exact h
 split
 ·exact ⟨h.byt, h.lo, h.hi, h.len⟩
 ·rename_i h2
  have h3 := scan_le (m := m) _ r.left [] 0 (Nat.le_refl _) (Classical.not_not.1 h2)
  have hl := left_len r h
  have := h.lo
  exact ⟨h.byt, by show 0 ≤ r.i + ((scanB m r.left [] 0).2.2 : Int); omega, by show r.i + ((scanB m r.left [] 0).2.2 : Int) ≤ r.b.length; omega, h.len⟩
theorem inR_ok {r : Rd} (h : r.Ok) : (dIn r).2.Ok := bytesR_ok (uintR_ok (uintR_ok (hashR_ok h).1 (by omega)).1 (by omega)).1
theorem insR_ok {r : Rd} (h : r.Ok) : ∀ k, (dIns k r).2.Ok ∧ (dIns k r).1.length = k
 | 0 => ⟨h, rfl⟩
 | k + 1 => by
  obtain ⟨h1, h2⟩ := insR_ok h k
  refine ⟨inR_ok h1, ?_⟩
  show ((dIns k r).1 ++ [(dIn (dIns k r).2).1]).length = k + 1
  rw [List.length_append, h2]
  rfl
theorem cR_ok {r : Rd} (h : r.Ok) : (dC r).2.Ok := (brsR_ok (countR_ok h (m := 8) (by omega)).1 _).1
theorem outsR_ok {r : Rd} (h : r.Ok) : ∀ k, (dOuts k r).2.Ok ∧ (dOuts k r).1.length = k
 | 0 => ⟨h, rfl⟩
 | k + 1 => by
  obtain ⟨h1, h2⟩ := outsR_ok h k
  refine ⟨cR_ok (uintR_ok h1 (by omega)).1, ?_⟩
  show ((dOuts k r).1 ++ [(dOut (dOuts k r).2).1]).length = k + 1
  rw [List.length_append, h2]
  rfl
theorem few_of {r : Rd} (hr : r.Ok) {m : Int} (h1 : 0 ≤ m) (h2 : m ≤ 1000) : (RdN.mk r m).Few := ⟨⟨hr, h1⟩, by show m ≤ 1000000; omega⟩
def dtK (x : List Int) (x_1 : Nat) : Prop := (True ∧ (64:Int) = (64:Int)) ∧ (((uintR (uintR (hashR (dIns x_1 (dN x).snd).snd).snd (64:Int)).snd (8:Int)).snd.b = (uintR (uintR (hashR (dIns
 x_1 (dN x).snd).snd).snd (64:Int)).snd (8:Int)).snd.b ∧ (uintR (uintR (hashR (dIns x_1 (dN x).snd).snd).snd (64:Int)).snd (8:Int)).snd.i =
 (uintR (uintR (hashR (dIns x_1 (dN x).snd).snd).snd (64:Int)).snd (8:Int)).snd.i ∧ (uintR (uintR (hashR (dIns x_1 (dN x).snd).snd).snd (64 :
 Int)).snd (8:Int)).snd.e = (uintR (uintR (hashR (dIns x_1 (dN x).snd).snd).snd (64:Int)).snd (8:Int)).snd.e ∧ True) ∧ True) ∧ (RdN.mk (uintR
 (uintR (hashR (dIns x_1 (dN x).snd).snd).snd (64:Int)).snd (8:Int)).snd (64:Int)).Few ∧ ((hashR (dIns x_1 (dN x).snd).snd).fst = (hashR (dIns x_1
 (dN x).snd).snd).fst ∧ wr IntKind.i64 (uintR (hashR (dIns x_1 (dN x).snd).snd).snd (64:Int)).fst = wr IntKind.i64 (uintR (hashR (dIns x_1 (dN
 x).snd).snd).snd (64:Int)).fst ∧ wr IntKind.i64 (uintR (uintR (hashR (dIns x_1 (dN x).snd).snd).snd (64:Int)).snd (8:Int)).fst = wr IntKind.i64
 (uintR (uintR (hashR (dIns x_1 (dN x).snd).snd).snd (64:Int)).snd (8:Int)).fst ∧ (bytesR (uintR (uintR (hashR (dIns x_1 (dN x).snd).snd).snd (64 :
 Int)).snd (8:Int)).snd (64:Int)).fst = (bytesR (uintR (uintR (hashR (dIns x_1 (dN x).snd).snd).snd (64:Int)).snd (8:Int)).snd (64:Int)).fst ∧
 True) ∧ ((dIns x_1 (dN x).snd).fst.length + [TIn.mk (hashR (dIns x_1 (dN x).snd).snd).fst (wr IntKind.i64 (uintR (hashR (dIns x_1 (dN x).snd).snd).snd
 (64:Int)).fst) (wr IntKind.i64 (uintR (uintR (hashR (dIns x_1 (dN x).snd).snd).snd (64:Int)).snd (8:Int)).fst) (bytesR (uintR (uintR (hashR (dIns
 x_1 (dN x).snd).snd).snd (64:Int)).snd (8:Int)).snd (64:Int)).fst].length) * (72:Nat) ≤ (140737488355328:Nat) ∧ (dIns x_1 (dN
 x).snd).fst.length + [TIn.mk (hashR (dIns x_1 (dN x).snd).snd).fst (wr IntKind.i64 (uintR (hashR (dIns x_1 (dN x).snd).snd).snd (64:Int)).fst) (wr
 IntKind.i64 (uintR (uintR (hashR (dIns x_1 (dN x).snd).snd).snd (64:Int)).snd (8:Int)).fst) (bytesR (uintR (uintR (hashR (dIns x_1 (dN
 x).snd).snd).snd (64:Int)).snd (8:Int)).snd (64:Int)).fst].length ≤ (1152921504606846976:Nat) ∧ inI64 ((x_1:Int) + (1:Int)) ∧ ∃ (y : Nat),
 ((dN x).fst - (y:Int)).NonNeg ∧ (dN x).fst.toNat - y < (dN x).fst.toNat - x_1 ∧ (y:Int) = (x_1:Int) + (1:Int) ∧ (((0:Int) = (0:Int) ∧
 SV.val (A := AA) (Value.slice none (0:Nat) (0:Nat)) = SV.val (A := AA) (Value.slice none (0:Nat) (0:Nat)) ∧ SV.val (A := AA) (Value.slice none
 (0:Nat) (0:Nat)) = SV.val (A := AA) (Value.slice none (0:Nat) (0:Nat)) ∧ True) ∧ ((dIns y (dN x).snd).snd.b = (bytesR (uintR (uintR (hashR
 (dIns x_1 (dN x).snd).snd).snd (64:Int)).snd (8:Int)).snd (64:Int)).snd.b ∧ (dIns y (dN x).snd).snd.i = (bytesR (uintR (uintR (hashR (dIns x_1
 (dN x).snd).snd).snd (64:Int)).snd (8:Int)).snd (64:Int)).snd.i ∧ (dIns y (dN x).snd).snd.e = (bytesR (uintR (uintR (hashR (dIns x_1 (dN
 x).snd).snd).snd (64:Int)).snd (8:Int)).snd (64:Int)).snd.e ∧ True) ∧ (wr IntKind.i64 (dLock x).fst = wr IntKind.i64 (dLock x).fst ∧ True ∧
 SV.val (A := AA) (Value.slice none (0:Nat) (0:Nat)) = SV.val (A := AA) (Value.slice none (0:Nat) (0:Nat)) ∧ True) ∧ True) ∧ (dIns y (dN
 x).snd).fst = (dIns x_1 (dN x).snd).fst ++ [TIn.mk (hashR (dIns x_1 (dN x).snd).snd).fst (wr IntKind.i64 (uintR (hashR (dIns x_1 (dN x).snd).snd).snd
 (64:Int)).fst) (wr IntKind.i64 (uintR (uintR (hashR (dIns x_1 (dN x).snd).snd).snd (64:Int)).snd (8:Int)).fst) (bytesR (uintR (uintR (hashR (dIns
 x_1 (dN x).snd).snd).snd (64:Int)).snd (8:Int)).snd (64:Int)).fst] ∧ True
def dtA (x : List Int) (x_1 : Nat) (P : Prop) : Prop := (True ∧ (8:Int) = (8:Int)) ∧ (((uintR (hashR (dIns x_1 (dN x).snd).snd).snd (64:Int)).snd.b = (uintR (hashR (dIns x_1 (dN x).snd).snd).snd (64 :
 Int)).snd.b ∧ (uintR (hashR (dIns x_1 (dN x).snd).snd).snd (64:Int)).snd.i = (uintR (hashR (dIns x_1 (dN x).snd).snd).snd (64:Int)).snd.i ∧ (uintR
 (hashR (dIns x_1 (dN x).snd).snd).snd (64:Int)).snd.e = (uintR (hashR (dIns x_1 (dN x).snd).snd).snd (64:Int)).snd.e ∧ True) ∧ True) ∧ (RdN.mk
 (uintR (hashR (dIns x_1 (dN x).snd).snd).snd (64:Int)).snd (8:Int)).Ok ∧ P
def dtQ (x : List Int) (x_1 x_2 : Nat) : Prop := True ∧ (((uintR (dOuts x_2 (dM x).snd).snd (1125899906842624:Int)).snd.b = (uintR (dOuts x_2 (dM x).snd).snd (1125899906842624:Int)).snd.b ∧ (uintR
 (dOuts x_2 (dM x).snd).snd (1125899906842624:Int)).snd.i = (uintR (dOuts x_2 (dM x).snd).snd (1125899906842624:Int)).snd.i ∧ (uintR (dOuts x_2 (dM
 x).snd).snd (1125899906842624:Int)).snd.e = (uintR (dOuts x_2 (dM x).snd).snd (1125899906842624:Int)).snd.e ∧ True) ∧ True) ∧ (uintR (dOuts x_2 (dM
 x).snd).snd (1125899906842624:Int)).snd.Ok ∧ (wr IntKind.i64 (uintR (dOuts x_2 (dM x).snd).snd (1125899906842624:Int)).fst = wr IntKind.i64 (uintR
 (dOuts x_2 (dM x).snd).snd (1125899906842624:Int)).fst ∧ (dC (uintR (dOuts x_2 (dM x).snd).snd (1125899906842624:Int)).snd).fst = (dC (uintR (dOuts
 x_2 (dM x).snd).snd (1125899906842624:Int)).snd).fst ∧ True) ∧ ((dOuts x_2 (dM x).snd).fst.length + [TOut.mk (wr IntKind.i64 (uintR (dOuts x_2 (dM
 x).snd).snd (1125899906842624:Int)).fst) (dC (uintR (dOuts x_2 (dM x).snd).snd (1125899906842624:Int)).snd).fst].length) * (32:Nat) ≤
 (140737488355328:Nat) ∧ (dOuts x_2 (dM x).snd).fst.length + [TOut.mk (wr IntKind.i64 (uintR (dOuts x_2 (dM x).snd).snd (1125899906842624:Int)).fst)
 (dC (uintR (dOuts x_2 (dM x).snd).snd (1125899906842624:Int)).snd).fst].length ≤ (1152921504606846976:Nat) ∧ inI64 ((x_2:Int) + (1:Int)) ∧ ∃
 (y : Nat), ((dM x).fst - (y:Int)).NonNeg ∧ (dM x).fst.toNat - y < (dM x).fst.toNat - x_2 ∧ (y:Int) = (x_2:Int) + (1:Int) ∧ (((0:Int) = (0
 : Int) ∧ SV.val (A := AA) (Value.slice none (0:Nat) (0:Nat)) = SV.val (A := AA) (Value.slice none (0:Nat) (0:Nat)) ∧ SV.val (A := AA)
 (Value.slice none (0:Nat) (0:Nat)) = SV.val (A := AA) (Value.slice none (0:Nat) (0:Nat)) ∧ True) ∧ ((dOuts y (dM x).snd).snd.b = (dC (uintR
 (dOuts x_2 (dM x).snd).snd (1125899906842624:Int)).snd).snd.b ∧ (dOuts y (dM x).snd).snd.i = (dC (uintR (dOuts x_2 (dM x).snd).snd (1125899906842624
 : Int)).snd).snd.i ∧ (dOuts y (dM x).snd).snd.e = (dC (uintR (dOuts x_2 (dM x).snd).snd (1125899906842624:Int)).snd).snd.e ∧ True) ∧ (wr IntKind.i64
 (dLock x).fst = wr IntKind.i64 (dLock x).fst ∧ True ∧ True ∧ True) ∧ (dIns x_1 (dN x).snd).fst = (dIns x_1 (dN x).snd).fst ∧ True) ∧ (dOuts y (dM
 x).snd).fst = (dOuts x_2 (dM x).snd).fst ++ [TOut.mk (wr IntKind.i64 (uintR (dOuts x_2 (dM x).snd).snd (1125899906842624:Int)).fst) (dC (uintR (dOuts
 x_2 (dM x).snd).snd (1125899906842624:Int)).snd).fst] ∧ True
def dtB (x : List Int) (x_2 : Nat) (P : Prop) : Prop := (True ∧ (1125899906842624:Int) = (1125899906842624:Int)) ∧ (((dOuts x_2 (dM x).snd).snd.b = (dOuts x_2 (dM x).snd).snd.b ∧ (dOuts x_2 (dM
 x).snd).snd.i = (dOuts x_2 (dM x).snd).snd.i ∧ (dOuts x_2 (dM x).snd).snd.e = (dOuts x_2 (dM x).snd).snd.e ∧ True) ∧ True) ∧ (RdN.mk (dOuts x_2 (dM
 x).snd).snd (1125899906842624:Int)).Ok ∧ P
def decTxVC : Prop := ∀ (x : List Int), DecIn x → x = x ∧ True ∧ True ∧ (True ∧ (1099511627776:Int) = (1099511627776:Int)) ∧ ((x = x ∧ (0:Int) = (0:Int) ∧ (0:Int)
 = (0:Int) ∧ True) ∧ True) ∧ (RdN.mk (Rd.mk x (0:Int) (0:Int)) (1099511627776:Int)).Ok ∧ (True ∧ (64:Int) = (64:Int)) ∧ (((dLock x).snd.b =
 (dLock x).snd.b ∧ (dLock x).snd.i = (dLock x).snd.i ∧ (dLock x).snd.e = (dLock x).snd.e ∧ True) ∧ True) ∧ (RdN.mk (dLock x).snd (64:Int)).Few ∧ (∃
 (x_1 : Nat), ((dN x).fst - (x_1:Int)).NonNeg ∧ (x_1:Int) = (0:Int) ∧ (((0:Int) = (0:Int) ∧ (SV.val (A := AA) (Value.slice none (0:Nat) (0
 : Nat)) : SV AA) = SV.val (A := AA) (Value.slice none (0:Nat) (0:Nat)) ∧ (SV.val (A := AA) (Value.slice none (0:Nat) (0:Nat)) : SV AA) = SV.val
 (A := AA) (Value.slice none (0:Nat) (0:Nat)) ∧ True) ∧ ((dIns x_1 (dN x).snd).snd.b = (dN x).snd.b ∧ (dIns x_1 (dN x).snd).snd.i = (dN x).snd.i ∧
 (dIns x_1 (dN x).snd).snd.e = (dN x).snd.e ∧ True) ∧ (wr IntKind.i64 (dLock x).fst = wr IntKind.i64 (dLock x).fst ∧ (SV.val (A := AA) (Value.slice none
 (0:Nat) (0:Nat)) : SV AA) = SV.val (A := AA) (Value.slice none (0:Nat) (0:Nat)) ∧ (SV.val (A := AA) (Value.slice none (0:Nat) (0:Nat)) : SV
 AA) = SV.val (A := AA) (Value.slice none (0:Nat) (0:Nat)) ∧ True) ∧ True) ∧ (dIns x_1 (dN x).snd).fst = [] ∧ True) ∧ ∀ (x_1 : Nat), ((dN x).fst -
 (x_1:Int)).NonNeg → (decide ((x_1:Int) < (dN x).fst) = true → True ∧ (((dIns x_1 (dN x).snd).snd.b = (dIns x_1 (dN x).snd).snd.b ∧ (dIns x_1 (dN
 x).snd).snd.i = (dIns x_1 (dN x).snd).snd.i ∧ (dIns x_1 (dN x).snd).snd.e = (dIns x_1 (dN x).snd).snd.e ∧ True) ∧ True) ∧ (dIns x_1 (dN x).snd).snd.Ok
 ∧ (True ∧ (64:Int) = (64:Int)) ∧ (((hashR (dIns x_1 (dN x).snd).snd).snd.b = (hashR (dIns x_1 (dN x).snd).snd).snd.b ∧ (hashR (dIns x_1 (dN
 x).snd).snd).snd.i = (hashR (dIns x_1 (dN x).snd).snd).snd.i ∧ (hashR (dIns x_1 (dN x).snd).snd).snd.e = (hashR (dIns x_1 (dN x).snd).snd).snd.e ∧
 True) ∧ True) ∧ (RdN.mk (hashR (dIns x_1 (dN x).snd).snd).snd (64:Int)).Ok ∧ ((dtA x x_1 (dtK x x_1)) ∧ dtA x x_1 ((dtK x x_1) ∧ dtK x x_1)) ∧ ((dtA
 x x_1 (dtK x x_1)) ∧ dtA x x_1 ((dtK x x_1) ∧ dtK x x_1)) ∧ dtA x x_1 (((dtK x x_1) ∧ dtK x x_1) ∧ ((dtK x x_1) ∧ dtK x x_1) ∧ dtK x x_1)) ∧ (decide
 ((x_1:Int) < (dN x).fst) = false → (True ∧ (64:Int) = (64:Int)) ∧ (((dIns x_1 (dN x).snd).snd.b = (dIns x_1 (dN x).snd).snd.b ∧ (dIns x_1 (dN
 x).snd).snd.i = (dIns x_1 (dN x).snd).snd.i ∧ (dIns x_1 (dN x).snd).snd.e = (dIns x_1 (dN x).snd).snd.e ∧ True) ∧ True) ∧ (RdN.mk (dIns x_1 (dN
 x).snd).snd (64:Int)).Few ∧ (∃ (x_2 : Nat), ((dM x).fst - (x_2:Int)).NonNeg ∧ (x_2:Int) = (0:Int) ∧ (((0:Int) = (0:Int) ∧ (SV.val (A :=
 AA) (Value.slice none (0:Nat) (0:Nat)) : SV AA) = SV.val (A := AA) (Value.slice none (0:Nat) (0:Nat)) ∧ (SV.val (A := AA) (Value.slice none (0
 : Nat) (0:Nat)) : SV AA) = SV.val (A := AA) (Value.slice none (0:Nat) (0:Nat)) ∧ True) ∧ ((dOuts x_2 (dM x).snd).snd.b = (countR (dIns x_1 (dN
 x).snd).snd (64:Int)).snd.b ∧ (dOuts x_2 (dM x).snd).snd.i = (countR (dIns x_1 (dN x).snd).snd (64:Int)).snd.i ∧ (dOuts x_2 (dM x).snd).snd.e =
 (countR (dIns x_1 (dN x).snd).snd (64:Int)).snd.e ∧ True) ∧ (wr IntKind.i64 (dLock x).fst = wr IntKind.i64 (dLock x).fst ∧ True ∧ (SV.val (A := AA)
 (Value.slice none (0:Nat) (0:Nat)) : SV AA) = SV.val (A := AA) (Value.slice none (0:Nat) (0:Nat)) ∧ True) ∧ (dIns x_1 (dN x).snd).fst = (dIns
 x_1 (dN x).snd).fst ∧ True) ∧ (dOuts x_2 (dM x).snd).fst = [] ∧ True) ∧ ∀ (x_2 : Nat), ((dM x).fst - (x_2:Int)).NonNeg → (decide ((x_2:Int) <
 (countR (dIns x_1 (dN x).snd).snd (64:Int)).fst) = true → (dtB x x_2 (dtQ x x_1 x_2)) ∧ dtB x x_2 ((dtQ x x_1 x_2) ∧ dtQ x x_1 x_2)) ∧ (decide ((↑x_2
 : Int) < (countR (dIns x_1 (dN x).snd).snd (64:Int)).fst) = false → True ∧ (((dOuts x_2 (dM x).snd).snd.b = (dOuts x_2 (dM x).snd).snd.b ∧ (dOuts x_2
 (dM x).snd).snd.i = (dOuts x_2 (dM x).snd).snd.i ∧ (dOuts x_2 (dM x).snd).snd.e = (dOuts x_2 (dM x).snd).snd.e ∧ True) ∧ True) ∧ True ∧ ((!doneR (dOuts
 x_2 (dM x).snd).snd == (0:Int)) = true → (((decTxB x).lock = (0:Int) ∧ (decTxB x).ins = [] ∧ (decTxB x).outs = [] ∧ True) ∧ decTxE x = (3:Int) ∧
 (3:Int) ≠ (0:Int)) ∧ True ∧ True) ∧ ((!doneR (dOuts x_2 (dM x).snd).snd == (0:Int)) = false → (wr IntKind.i64 (dLock x).fst = wr IntKind.i64
 (dLock x).fst ∧ (dIns x_1 (dN x).snd).fst = (dIns x_1 (dN x).snd).fst ∧ (dOuts x_2 (dM x).snd).fst = (dOuts x_2 (dM x).snd).fst ∧ True) ∧ True ∧ True ∧
 ((!checkT (TxD.mk (wr IntKind.i64 (dLock x).fst) (dIns x_1 (dN x).snd).fst (dOuts x_2 (dM x).snd).fst) == (0:Int)) = true → (((decTxB x).lock = (0 :
 Int) ∧ (decTxB x).ins = [] ∧ (decTxB x).outs = [] ∧ True) ∧ decTxE x = (3:Int) ∧ (3:Int) ≠ (0:Int)) ∧ True ∧ True) ∧ ((!checkT (TxD.mk (wr
 IntKind.i64 (dLock x).fst) (dIns x_1 (dN x).snd).fst (dOuts x_2 (dM x).snd).fst) == (0:Int)) = false → (((decTxB x).lock = wr IntKind.i64 (dLock
 x).fst ∧ (decTxB x).ins = (dIns x_1 (dN x).snd).fst ∧ (decTxB x).outs = (dOuts x_2 (dM x).snd).fst ∧ True) ∧ decTxE x = (0:Int)) ∧ True ∧ True))))
theorem decTx_eq : decTxVC = fnS F168 f29 (bodyOf f29) decTxLS decTxAnn := by kernel_rfl
theorem dtK_ok {x : List Int} {k : Nat} (h : (dIns k (dN x).2).2.Ok) (hn : (dN x).1 ≤ 64) (hk : (k : Int) < (dN x).1) (hl : (dIns k (dN x).2).1.length = k) : dtK x k := by
 have h1 := hashR_ok h
 obtain ⟨n1, n2⟩ := uintR_ok h1.1 (m := 64) (by omega)
 obtain ⟨b1, b2⟩ := uintR_ok n1 (m := 8) (by omega)
 refine ⟨⟨trivial, rfl⟩, ⟨⟨rfl, rfl, rfl, trivial⟩, trivial⟩, few_of b1 (by omega) (by omega), ⟨rfl, rfl, rfl, rfl, trivial⟩, ?_, ?_, by unfold inI64; omega, k + 1, ?_, by omega, by omega, ⟨⟨rfl, rfl, rfl, trivial⟩, ⟨rfl, rfl, rfl, trivial⟩, ⟨rfl, trivial, rfl, trivial⟩, trivial⟩, ?_, trivial⟩
 ·rw [hl]; simp only [List.length_singleton]; omega
 ·rw [hl]; simp only [List.length_singleton]; omega
 ·show ((k + 1 : Nat) : Int) ≤ (dN x).1
  omega
 ·rw [wr_small n2 (by omega), wr_small b2 (by omega)]
  rfl
theorem dtA_ok {x : List Int} {k : Nat} {P : Prop} (h : (dIns k (dN x).2).2.Ok) (hp : P) : dtA x k P := by
 have h1 := hashR_ok h
 obtain ⟨n1, _⟩ := uintR_ok h1.1 (m := 64) (by omega)
 exact ⟨⟨trivial, rfl⟩, ⟨⟨rfl, rfl, rfl, trivial⟩, trivial⟩, ⟨n1, by show (0:Int) ≤ 8; omega⟩, hp⟩
theorem dtQ_ok {x : List Int} {i k : Nat} (h : (dOuts k (dM x).2).2.Ok) (hn : (dM x).1 ≤ 64) (hk : (k : Int) < (dM x).1) (hl : (dOuts k (dM x).2).1.length = k) : dtQ x i k := by
 obtain ⟨a1, a2⟩ := uintR_ok h (m := 1125899906842624) (by omega)
 refine ⟨trivial, ⟨⟨rfl, rfl, rfl, trivial⟩, trivial⟩, a1, ⟨rfl, rfl, trivial⟩, ?_, ?_, by unfold inI64; omega, k + 1, ?_, by omega, by omega, ⟨⟨rfl, rfl, rfl, trivial⟩, ⟨rfl, rfl, rfl, trivial⟩, ⟨rfl, trivial, trivial, trivial⟩, rfl, trivial⟩, ?_, trivial⟩
 ·rw [hl]; simp only [List.length_singleton]; omega
 ·rw [hl]; simp only [List.length_singleton]; omega
 ·show ((k + 1 : Nat) : Int) ≤ (dM x).1
  omega
 ·rw [wr_small a2 (by omega)]
  rfl
theorem dtB_ok {x : List Int} {k : Nat} {P : Prop} (h : (dOuts k (dM x).2).2.Ok) (hp : P) : dtB x k P :=
 ⟨⟨trivial, rfl⟩, ⟨⟨rfl, rfl, rfl, trivial⟩, trivial⟩, ⟨h, by show (0:Int) ≤ 1125899906842624; omega⟩, hp⟩
theorem decTx_vc : decTxVC := by
 intro x hx
 have h0 : (Rd.mk x 0 0).Ok := ⟨hx.byt, by show (0:Int) ≤ 0; omega, by show (0:Int) ≤ x.length; omega, hx.len⟩
 obtain ⟨l1, l2⟩ := uintR_ok h0 (m := 1099511627776) (by omega)
 change (dLock x).2.Ok at l1
 change 0 ≤ (dLock x).1 ∧ (dLock x).1 ≤ 1099511627776 at l2
 obtain ⟨c1, c2, c3⟩ := countR_ok l1 (m := 64) (by omega)
 change (dN x).2.Ok at c1
 change 0 ≤ (dN x).1 at c2
 change (dN x).1 ≤ 64 at c3
 refine ⟨rfl, trivial, trivial, ⟨trivial, rfl⟩, ⟨⟨rfl, rfl, rfl, trivial⟩, trivial⟩, ⟨h0, by show (0:Int) ≤ 1099511627776; omega⟩, ⟨trivial, rfl⟩, ⟨⟨rfl, rfl, rfl, trivial⟩, trivial⟩, few_of l1 (by omega) (by omega), ⟨0, ?_, rfl, ⟨⟨rfl, rfl, rfl, trivial⟩, ⟨rfl, rfl, rfl, trivial⟩, ⟨rfl, rfl, rfl, trivial⟩, trivial⟩, rfl, trivial⟩, fun i hi => ⟨fun h1 => ?_, fun h1 => ?_⟩⟩
 ·show ((0:Nat) : Int) ≤ (dN x).1
  omega
 ·simp only [decide_eq_true_eq] at h1
  obtain ⟨i1, i2⟩ := insR_ok c1 i
  have hK := dtK_ok i1 c3 h1 i2
  have hA : ∀ {P : Prop}, P → dtA x i P := dtA_ok i1
  exact ⟨trivial, ⟨⟨rfl, rfl, rfl, trivial⟩, trivial⟩, i1, ⟨trivial, rfl⟩, ⟨⟨rfl, rfl, rfl, trivial⟩, trivial⟩, ⟨(hashR_ok i1).1, by show (0:Int) ≤ 64; omega⟩, ⟨hA hK, hA ⟨hK, hK⟩⟩, ⟨hA hK, hA ⟨hK, hK⟩⟩, hA ⟨⟨hK, hK⟩, ⟨hK, hK⟩, hK⟩⟩
 ·simp only [decide_eq_false_iff_not] at h1
  have hi' : (i : Int) ≤ (dN x).1 := hi
  obtain ⟨i1, i2⟩ := insR_ok c1 i
  have ei : dIns i (dN x).2 = dI x := by
   unfold dI
   rw [show (dN x).1.toNat = i by omega]
  rw [ei] at i1 ⊢
  obtain ⟨m1, m2, m3⟩ := countR_ok i1 (m := 64) (by omega)
  change (dM x).2.Ok at m1
  change 0 ≤ (dM x).1 at m2
  change (dM x).1 ≤ 64 at m3
  refine ⟨⟨trivial, rfl⟩, ⟨⟨rfl, rfl, rfl, trivial⟩, trivial⟩, few_of i1 (by omega) (by omega), ⟨0, ?_, rfl, ⟨⟨rfl, rfl, rfl, trivial⟩, ⟨rfl, rfl, rfl, trivial⟩, ⟨rfl, trivial, rfl, trivial⟩, rfl, trivial⟩, rfl, trivial⟩, fun k hk => ⟨fun h2 => ?_, fun h2 => ?_⟩⟩
  ·show ((0:Nat) : Int) ≤ (dM x).1
   omega
  ·have h2' : (k : Int) < (dM x).1 := of_decide_eq_true h2
   obtain ⟨o1, o2⟩ := outsR_ok m1 k
   have hQ : dtQ x i k := dtQ_ok o1 m3 h2' o2
   exact ⟨dtB_ok o1 hQ, dtB_ok o1 ⟨hQ, hQ⟩⟩
  ·have h2' : ¬ (k : Int) < (dM x).1 := of_decide_eq_false h2
   have hk' : (k : Int) ≤ (dM x).1 := hk
   have ek : dOuts k (dM x).2 = dU x := by
    unfold dU
    rw [show (dM x).1.toNat = k by omega]
   rw [ek, wr_small l2 (by omega)]
   have hB : ∀ b, decTxOk x = b → decTxB x = (if b then dTx x else ⟨0, [], []⟩) ∧ decTxE x = (if b then 0 else 3) := fun b hb => by
    unfold decTxB decTxE
    rw [hb]
    exact ⟨rfl, rfl⟩
   have no : decTxOk x = false → (((decTxB x).lock = (0:Int) ∧ (decTxB x).ins = [] ∧ (decTxB x).outs = [] ∧ True) ∧ decTxE x = (3:Int) ∧ (3:Int) ≠ (0:Int)) ∧ True ∧ True := fun hd => by
    rw [(hB _ hd).1, (hB _ hd).2]
    exact ⟨⟨⟨rfl, rfl, rfl, trivial⟩, rfl, by omega⟩, trivial, trivial⟩
   refine ⟨trivial, ⟨⟨rfl, rfl, rfl, trivial⟩, trivial⟩, trivial, fun h3 => no ?_, fun h3 => ⟨⟨rfl, rfl, rfl, trivial⟩, trivial, trivial, fun h4 => no ?_, fun h4 => ?_⟩⟩
   ·unfold decTxOk
    rw [decide_eq_false (p := doneR (dU x).2 = 0) (by simpa using h3)]
    rfl
   ·unfold decTxOk
    rw [decide_eq_false (p := checkT (dTx x) = 0) (by
     have : checkT (dTx x) ≠ 0 := by simpa [dTx] using h4
     exact this), Bool.and_false]
   ·have hd : decTxOk x = true := by
     unfold decTxOk
     rw [decide_eq_true (p := doneR (dU x).2 = 0) (by simpa using h3), decide_eq_true (p := checkT (dTx x) = 0) (by
      have : checkT (dTx x) = 0 := by simpa [dTx] using h4
      exact this)]
     rfl
    rw [(hB _ hd).1, (hB _ hd).2]
    exact ⟨⟨⟨rfl, rfl, rfl, trivial⟩, rfl⟩, trivial, trivial⟩
theorem decTx_ok : Fits F168 f29 (bodyOf f29) decTxLS decTxAnn := by
 constructor
 rw [← decTx_eq]
 exact decTx_vc
theorem decTx_has : Has prog 29 f29 (bodyOf f29) := ⟨by kernel_rfl, by kernel_rfl, by kernel_rfl⟩
theorem known169 : Known prog L169 := by
 unfold L169
 exact known168.lent mixed decTx_has F168_eq decTx_ok (fun _ _ => Nat.zero_le _) (fun _ _ => rfl)
theorem insS_byt : ∀ {l : List TIn}, (∀ y, y ∈ l → Byt y.secret ∧ Byt y.tx) → Byt (insB (fun y => y.secret) l)
 | [], _ => byt_nil
 | x :: _, h => byt_app (byt_app (byt_app (byt_app (h x List.mem_cons_self).2 (uintB_byt _)) (uintB_byt _)) (bytesB_byt (h x List.mem_cons_self).1)) (insS_byt fun y hy => h y (List.mem_cons_of_mem _ hy))
def encB (t : TxD) : List Int := putTx (fun x => x.secret) t
noncomputable def bkB (t : TxD) : TxD := decTxB (encB t)
def txBackVC : Prop := ∀ (x : TxD), TxWf x → (x.lock = x.lock ∧ x.ins = x.ins ∧ x.outs = x.outs ∧ True) ∧ True ∧ Small x ∧ (longB x = true → True ∧ True ∧ True ∧ true = true
 ∧ True ∧ True) ∧ (longB x = false → (x.lock = x.lock ∧ x.ins = x.ins ∧ x.outs = x.outs ∧ True) ∧ True ∧ Small x ∧ (x.lock = x.lock ∧ x.ins = x.ins ∧
 x.outs = x.outs ∧ True) ∧ True ∧ EncOk x ∧ encB x = encB x ∧ True ∧ DecIn (encB x) ∧ (x.lock = x.lock ∧ x.ins = x.ins ∧ x.outs = x.outs ∧ True) ∧ True
 ∧ True ∧ ((!checkT x == (0:Int)) = true → ((decTxE (encB x) == (3:Int)) = true → (↑(bkB x).ins.length : Int) ≤ (9223372036854775807:Int) → (↑(bkB
 x).outs.length : Int) ≤ (9223372036854775807:Int) → inI64 ((↑(bkB x).ins.length : Int) + (↑(bkB x).outs.length : Int)) ∧ inI64 ((↑(bkB x).ins.length
 : Int) + (↑(bkB x).outs.length : Int) + (bkB x).lock) ∧ (((↑(bkB x).ins.length : Int) + (↑(bkB x).outs.length : Int) + (bkB x).lock == (0:Int)) =
 true → True ∧ True ∧ True ∧ true = true ∧ True ∧ True) ∧ (((↑(bkB x).ins.length : Int) + (↑(bkB x).outs.length : Int) + (bkB x).lock == (0:Int)) =
 false → true = false ∧ True ∧ True)) ∧ ((decTxE (encB x) == (3:Int)) = false → true = false ∧ True ∧ True)) ∧ ((!checkT x == (0:Int)) = false →
 ((decTxE (encB x) == (0:Int)) = true → (((bkB x).lock = (bkB x).lock ∧ (bkB x).ins = (bkB x).ins ∧ (bkB x).outs = (bkB x).outs ∧ True) ∧ True ∧ EncOk
 (bkB x) ∧ ((((strOfNums (encB (bkB x))).toList == (strOfNums (encB x)).toList) = true → ((bkB x).lock = (bkB x).lock ∧ (bkB x).ins = (bkB x).ins ∧ (bkB
 x).outs = (bkB x).outs ∧ True) ∧ True ∧ TxOk (bkB x) ∧ (x.lock = x.lock ∧ x.ins = x.ins ∧ x.outs = x.outs ∧ True) ∧ True ∧ TxOk x ∧ ((idB (bkB x) ==
 idB x) = true → True ∧ True ∧ True ∧ true = true ∧ True ∧ True) ∧ ((idB (bkB x) == idB x) = false → true = false ∧ True ∧ True)) ∧ (((strOfNums (encB
 (bkB x))).toList == (strOfNums (encB x)).toList) = false → true = false ∧ True ∧ True)) ∧ (((strOfNums (encB (bkB x))).toList == (strOfNums (encB
 x)).toList) = true → ((bkB x).lock = (bkB x).lock ∧ (bkB x).ins = (bkB x).ins ∧ (bkB x).outs = (bkB x).outs ∧ True) ∧ True ∧ TxOk (bkB x) ∧ (x.lock =
 x.lock ∧ x.ins = x.ins ∧ x.outs = x.outs ∧ True) ∧ True ∧ TxOk x ∧ ((idB (bkB x) == idB x) = true → True ∧ True ∧ True ∧ true = true ∧ True ∧ True) ∧
 ((idB (bkB x) == idB x) = false → true = false ∧ True ∧ True)) ∧ (((strOfNums (encB (bkB x))).toList == (strOfNums (encB x)).toList) = false → true =
 false ∧ True ∧ True)) ∧ ((bkB x).lock = (bkB x).lock ∧ (bkB x).ins = (bkB x).ins ∧ (bkB x).outs = (bkB x).outs ∧ True) ∧ True ∧ EncOk (bkB x) ∧
 (((strOfNums (encB (bkB x))).toList == (strOfNums (encB x)).toList) = true → ((bkB x).lock = (bkB x).lock ∧ (bkB x).ins = (bkB x).ins ∧ (bkB x).outs =
 (bkB x).outs ∧ True) ∧ True ∧ TxOk (bkB x) ∧ (x.lock = x.lock ∧ x.ins = x.ins ∧ x.outs = x.outs ∧ True) ∧ True ∧ TxOk x ∧ ((idB (bkB x) == idB x) =
 true → True ∧ True ∧ True ∧ true = true ∧ True ∧ True) ∧ ((idB (bkB x) == idB x) = false → true = false ∧ True ∧ True)) ∧ (((strOfNums (encB (bkB
 x))).toList == (strOfNums (encB x)).toList) = false → true = false ∧ True ∧ True)) ∧ ((decTxE (encB x) == (0:Int)) = false → ((true = false ∧ True ∧
 True) ∧ true = false ∧ True ∧ True) ∧ true = false ∧ True ∧ True)))
theorem txBack_eq : txBackVC = fnS F169 f6 (bodyOf f6) txBackLS noAnn := by kernel_rfl
theorem txBack_vc : txBackVC := by
 intro x hx
 have hs := hx.small
 have he := hx.enc
 have ho : TxOk x := he.toTxOk
 have h1 := hs.n
 have h2 := hs.m
 have hl := eA7_le he x.ins.length x.outs.length
 rw [eA7_all (Nat.le_refl _) (Nat.le_refl _)] at hl
 have hw := hs.w
 have hsum := he.s
 have hby : Byt (encB x) := byt_app (byt_app (byt_app (byt_app (uintB_byt _) (uintB_byt _)) (insS_byt fun y hy => ⟨(hx.ins y hy).bytes, (hx.ins y hy).tx.2⟩)) (uintB_byt _)) (toutsB_byt fun o ho b hb => ((hx.outs o ho).cond b hb).2)
 obtain ⟨d1, d2⟩ := decTx_put hx.lock hx.ins hx.outs (by omega) (by omega) hby (by omega)
 change bkB x = _ at d1
 change decTxE (encB x) = _ at d2
 have hd : DecIn (encB x) := ⟨hby, by show (putTx (fun y => y.secret) x).length ≤ 1000000000000; omega⟩
 rw [d1, d2]
 by_cases hc : checkT x = 0
 ·rw [if_pos hc, if_pos hc, hc]
  simp [hs, he, ho, hd]
 ·rw [if_neg hc, if_neg hc]
  have h0 : inI64 0 := by unfold inI64; omega
  simp [hs, he, hd, hc, h0]
theorem txBack_ok : Fits F169 f6 (bodyOf f6) txBackLS noAnn := by
 constructor
 rw [← txBack_eq]
 exact txBack_vc
theorem txBack_has : Has prog 6 f6 (bodyOf f6) := ⟨by kernel_rfl, by kernel_rfl, by kernel_rfl⟩
end Go.Proofs.YtcglahfmnoghjaaGreatDoor

/-! TxBack's call. Conditions: none. -/
namespace Go.Proofs.YtcglahfmnoghjaaGreatDoor
open Go Go.Eng Go.Proofs.Tryz Go.ChangeShapes Go.WideShapes Go.RowKit
theorem TxIs.wf {t : TxD} {n : Nat} (h : TxIs t n) (hn : n ≤ 1048576) : TxWf t where
 small := h.small hn
 enc := { h.ok hn with s := Nat.le_trans h.sum (by omega) }
 lock := h.lk
 ins := fun x hx => ⟨(h.i x hx).1, (h.ni x hx).1, (h.ni x hx).2, Nat.le_trans (h.i x hx).2.1 (by omega), (h.i x hx).2.2⟩
 outs := fun o ho => by
  have hw : weight o.cond ≤ 2000000 := Nat.le_trans (weight_sum ho) (Nat.le_trans h.w (by omega))
  refine ⟨h.am o ho, (back_in hw (h.o o ho)).b, ?_⟩
  unfold weight at hw
  omega
theorem txBack_calls {W : World} {vs : List Value} {t : TxD} (hx : TxWf t) (ha : ArgsR NoO [] W CC [.agg (txRSL t)] vs) (hg : Glob GG NoO [] W CC) :
  Calls prog 6 vs.toArray W fun e W' => e = .returned (.bool true) ∧ Below W.heap.size W W' := by
 have hS : Sound F169 := by rw [F169_eq]; exact sound mixed known169
 exact law_calls (ee_P F169_eq) hS txBack_has txBack_ok t hx rfl rfl (fun _ _ => Nat.le_refl _) (by rw [ee_C F169_eq]; exact ha) (by rw [ee_GL F169_eq, ee_C F169_eq]; exact hg)
end Go.Proofs.YtcglahfmnoghjaaGreatDoor
