/- An error's number. Conditions: the variable errors.errorType holds what its row says. Began as the kit's worked example 'ToyasWalks', turned to this program. -/
import Derived.Test.YtcglahfmnoghjaaDoorN1
namespace Go.Proofs.YtcglahfmnoghjaaDoor
open Go.RowKit Go.Extern.Stop Go.Stop Go.Extern

set_option maxHeartbeats 4000000 in
theorem num_nil (w : World) : Calls Tryd.prog 15 #[.nilIface] w fun e w' => e = .returned (.int .i64 0) ∧ w' = w.alloc (.cells #[.int .i64 0] 94) := by
  go_enter Tryd.func15, Tryd.ntmps15
  go_wp2
  go_ret
  exact ⟨rfl, rfl⟩

set_option maxHeartbeats 4000000 in
theorem num_errno (n : Int) (w : World) (hg : w.cell? ⟨0, 0, none⟩ = some (.iface 179 (.agg #[.pointer (some ⟨3, 34, none⟩)]))) :
    Calls Tryd.prog 15 #[.iface 94 (.int .i64 n)] w fun e w' => e = .returned (.int .i64 n) ∧ w' = ((((w.alloc (.cells #[.int .i64 n] 94)).alloc (.cells #[.pointer (some ⟨w.heap.size, 0, none⟩)] 96)).alloc (.cells #[.pointer (some ⟨3, 96, none⟩), .pointer (some ⟨w.heap.size + 1, 0, none⟩), .int .u64 150] 137)).alloc (.cells #[.pointer (some ⟨3, 96, none⟩), .pointer (some ⟨w.heap.size + 1, 0, none⟩), .int .u64 150] 137)).alloc (.cells #[.int .i64 n] 94) := by
  have hlt : 0 < w.heap.size := by
    rcases Nat.eq_zero_or_pos w.heap.size with h0 | h
    · simp [World.cell?, h0] at hg
    · exact h
  have hgA : (w.alloc (.cells #[.int .i64 0] 94)).cell? ⟨0, 0, none⟩ = some (.iface 179 (.agg #[.pointer (some ⟨3, 34, none⟩)])) := by
    rw [World.cell?_alloc_lt _ _ ⟨0, 0, none⟩ hlt]; exact hg
  have htA : (w.alloc (.cells #[.int .i64 0] 94)).cell? ⟨w.heap.size, 0, none⟩ = some (.int .i64 0) := by simp
  have hfA : (w.alloc (.cells #[.int .i64 0] 94)).frozen? ⟨w.heap.size, 0, none⟩ = false := by simp
  have hit := as_hit n ⟨w.heap.size, 0, none⟩ (.int .i64 0) _ hgA htA hfA
  go_enter Tryd.func15, Tryd.ntmps15
  go_wp2_with (first | (go_at_call 42; refine hit.mono ?_; rintro e w' ⟨rfl, rfl⟩))
  go_ret
  exact ⟨rfl, rfl⟩
end Go.Proofs.YtcglahfmnoghjaaDoor
