/- For every input: a contact that is changed, its properties of a mask, which are alike, and which a device has, are what the reference says. Conditions: none beyond the given statement's own. -/
import Derived.Test.YtaiejpjiacnfpaaGhostRef
namespace Go.Proofs.Ytaiejpjiacnfpaa
open Go.RowKit
set_option linter.unusedSimpArgs false
attribute [local go_sem] rowAt_alloc_at rowAt_alloc_past rowOk_alloc_at rowOk_alloc_past rowAt_drew rowOk_drew setRow_alloc_at setRow_alloc_past rowAt_setRow rowAt_setRow_far rowOk_setRow cell_rowOk frozen_rowOk setCell_rowOk setRow_setRow con_fold con_get con_size con_set set_all none8_cells equalIn_con storeCells_con

set_option maxHeartbeats 4000000 in
theorem tells_any (a b : Con) (m su : Int) (li : Bool) (w : World) (m0 : 0 ≤ m) (m1 : m < 256) (s0 : 0 ≤ su) (s1 : su < 256) :
    Calls Try.prog 7 #[.agg (con a), .agg (con b), .int .u8 m, .bool li, .int .u8 su] w fun e w' => e = .returned (.bool true) ∧ Below w.heap.size w w' := by
  go_enter Try.func7, Try.ntmps7
  go_wp2_with fail
  have hnV : New w ((w.alloc (Obj.cells (con a) 23)).alloc (Obj.cells (con b) 23)) := ((New.rfl' w).alloc' _).alloc' _
  generalize hV : ((w.alloc (Obj.cells (con a) 23)).alloc (Obj.cells (con b) 23)) = V at *
  have hVz0 : w.heap.size < V.heap.size := by rw [← hV]; simp only [World.size_alloc]; omega
  have hVa0 : rowAt V (w.heap.size) = con a := by rw [← hV]; simp [go_sem]
  have hVo0 : rowOk V (w.heap.size) = true := by rw [← hV]; simp [go_sem]
  have hVz1 : w.heap.size + 1 < V.heap.size := by rw [← hV]; simp only [World.size_alloc]; omega
  have hVa1 : rowAt V (w.heap.size + 1) = con b := by rw [← hV]; simp [go_sem]
  have hVo1 : rowOk V (w.heap.size + 1) = true := by rw [← hV]; simp [go_sem]
  clear hV
  have hVA := fun w' (h : New V w') n hn => rowAt_below h n hn
  have hVO := fun w' (h : New V w') n hn => rowOk_below h n hn
  have hVS := fun w' (h : New V w') n (hn : n < V.heap.size) => eq_true (Nat.lt_of_lt_of_le hn h.size)
  go_region_held3 (fun w' => New V w') (first | exact (New.rfl' V).drew' | exact New.call (by assumption) hb | exact (by assumption))
    (first
    | (go_at_call 8; refine (merge_any _ _ _ _ _ _ (by omega) (by omega) (by omega) (by omega)).mono ?_; rintro e w1 ⟨rfl, hb⟩)
    | (go_at_call 18; refine (refmerge_any _ _ _ _ _ _ (by omega) (by omega) (by omega) (by omega)).mono ?_; rintro e w1 ⟨rfl, hb⟩)
    | (go_at_call 12; refine (same_any _ _ _ _ (by omega) (by omega)).mono ?_; rintro e w1 ⟨rfl, hb⟩)
    | (go_at_call 20; refine (refsame_any _ _ _ _ (by omega) (by omega)).mono ?_; rintro e w1 ⟨rfl, hb⟩)
    | (go_at_call 11; refine (only_any _ _ _ (by omega) (by omega)).mono ?_; rintro e w1 ⟨rfl, hb⟩)
    | (go_at_call 19; refine (refonly_any _ _ _ (by omega) (by omega)).mono ?_; rintro e w1 ⟨rfl, hb⟩)
    | (go_at_call 10; refine (unlike_eq _ _ _).mono ?_; rintro e w1 ⟨rfl, hb⟩)
    | (go_at_call 21; refine (refunlike_any _ _ _).mono ?_; rintro e w1 ⟨rfl, hb⟩)
    | (go_at_call 22; refine (has_any _ _ _).mono ?_; rintro e w1 ⟨rfl, rfl⟩)
    | (go_at_call 23; refine (refhas_any _ _ _).mono ?_; rintro e w1 ⟨rfl, rfl⟩)
    | (go_at_call 9; refine (lives_any _).mono ?_; rintro e w1 ⟨rfl, hb⟩))
  go_wp2
  go_ret
  exact ⟨rfl, hnV.call (by assumption)⟩
end Go.Proofs.Ytaiejpjiacnfpaa
