/- For every input: a property that a change gives is the new one; one that it leaves out is cleared just if the device listed it. Conditions: none beyond the given statement's own. -/
import Derived.Test.YtaiejpjiacnfpaaGhost
namespace Go.Proofs.Ytaiejpjiacnfpaa
open Go.RowKit
set_option linter.unusedSimpArgs false
attribute [local go_sem] rowAt_alloc_at rowAt_alloc_past rowOk_alloc_at rowOk_alloc_past rowAt_drew rowOk_drew setRow_alloc_at setRow_alloc_past rowAt_setRow rowAt_setRow_far rowOk_setRow cell_rowOk frozen_rowOk setCell_rowOk setRow_setRow con_fold con_get con_size con_set set_all none8_cells equalIn_con storeCells_con

theorem byte_shr (m : Int) (k : Nat) (m0 : 0 ≤ m) (m1 : m < 256) (hk : k < 8) : (bits BinOp.and IntKind.u8 (m / 2 ^ k) 1 == 1) = bit m k := by
  have h : ∀ m : Nat, m < 256 → ∀ k : Nat, k < 8 → (bits BinOp.and IntKind.u8 ((m : Int) / 2 ^ k) 1 == 1) = m.testBit k := by decide +kernel
  have h1 := h m.toNat (by omega) k hk
  rw [show ((m.toNat : Nat) : Int) = m from by omega] at h1
  exact h1

set_option maxHeartbeats 800000 in
theorem each_any (a b : Con) (gi su p : Int) (li : Bool) (w : World) (g0 : 0 ≤ gi) (g1 : gi < 256) (s0 : 0 ≤ su) (s1 : su < 256) (p0 : 0 ≤ p) (p1 : p < 256) :
    Calls Try.prog 3 #[.agg (con a), .agg (con b), .int .u8 gi, .bool li, .int .u8 su, .int .u8 p] w fun e w' => e = .returned (.bool true) ∧ Below w.heap.size w w' := by
  obtain ⟨k, hk⟩ : ∃ k : Nat, p % 8 = (k : Int) := ⟨(p % 8).toNat, by omega⟩
  have hk8 : k < 8 := by omega
  have hb1 := byte_shr gi k g0 g1 hk8
  have hb2 := byte_shr su k s0 s1 hk8
  have hv := (mg_get a b gi li su k hk8).trans (by rw [mg1])
  rcases Bool.eq_false_or_eq_true (bit gi k) with hb | hb <;> rcases Bool.eq_false_or_eq_true (bit su k) with hs | hs <;> cases li
  all_goals
    simp only [hb, hs, if_true, if_false, Bool.false_eq_true, Bool.and_false, Bool.false_and, Bool.and_true, Bool.true_and] at hv hb1 hb2
    clear hb hs
    go_enter Try.func3, Try.ntmps3
    go_wp2_with fail
    have hnW : New w ((w.alloc (Obj.cells (con a) 23)).alloc (Obj.cells (con b) 23)) := ((New.rfl' w).alloc' _).alloc' _
    generalize hW : ((w.alloc (Obj.cells (con a) 23)).alloc (Obj.cells (con b) 23)) = W at *
    have hWz0 : w.heap.size < W.heap.size := by rw [← hW]; simp only [World.size_alloc]; omega
    have hWa0 : rowAt W (w.heap.size) = con a := by rw [← hW]; simp [go_sem]
    have hWo0 : rowOk W (w.heap.size) = true := by rw [← hW]; simp [go_sem]
    have hWz1 : w.heap.size + 1 < W.heap.size := by rw [← hW]; simp only [World.size_alloc]; omega
    have hWa1 : rowAt W (w.heap.size + 1) = con b := by rw [← hW]; simp [go_sem]
    have hWo1 : rowOk W (w.heap.size + 1) = true := by rw [← hW]; simp [go_sem]
    clear hW
    have hWA := fun w' (h : New W w') n hn => rowAt_below h n hn
    have hWO := fun w' (h : New W w') n hn => rowOk_below h n hn
    have hWS := fun w' (h : New W w') n (hn : n < W.heap.size) => eq_true (Nat.lt_of_lt_of_le hn h.size)
    have hr := New.rfl' W
    go_wp2_with (first
      | (go_at_call 8; refine (merge_any _ _ _ _ _ _ (by omega) (by omega) (by omega) (by omega)).mono ?_; rintro e w1 ⟨rfl, hb⟩; have hb' := New.call (by assumption) hb; clear hb)
      | (go_at_call 9; refine (lives_any _).mono ?_; rintro e w2 ⟨rfl, hb⟩; have hb2 := New.call (New.alloc' hb' _) hb; clear hb))
    go_ret
    exact ⟨rfl, hnW.call hb2⟩
end Go.Proofs.Ytaiejpjiacnfpaa
