/- For every input: the same change again changes nothing. Conditions: none beyond the given statement's own. -/
import Derived.Test.YtaiejpjiacnfpaaGhost
namespace Go.Proofs.Ytaiejpjiacnfpaa
open Go.RowKit
set_option linter.unusedSimpArgs false
attribute [local go_sem] rowAt_alloc_at rowAt_alloc_past rowOk_alloc_at rowOk_alloc_past rowAt_drew rowOk_drew setRow_alloc_at setRow_alloc_past rowAt_setRow rowAt_setRow_far rowOk_setRow cell_rowOk frozen_rowOk setCell_rowOk setRow_setRow con_fold con_get con_size con_set set_all none8_cells equalIn_con storeCells_con

theorem mg_idem (a b : Con) (gi : Int) (li : Bool) (su : Int) : mg (mg a b gi li su) b gi li su = mg a b gi li su := by
  apply Vector.ext
  intro i hi
  rw [mg_get _ _ _ _ _ i hi, mg_get _ _ _ _ _ i hi, mg1, mg1, mg_get _ _ _ _ _ i hi, mg1]
  cases bit gi i <;> cases bit su i <;> cases li <;> rfl
theorem mg_only (a b : Con) (gi : Int) (li : Bool) (su : Int) : mg none8 (mg a b gi li su) gi false 0 = mg none8 b gi false 0 := by
  apply Vector.ext
  intro i hi
  rw [mg_get _ _ _ _ _ i hi, mg_get _ _ _ _ _ i hi, mg1, mg1, mg_get _ _ _ _ _ i hi, mg1]
  cases bit gi i <;> rfl

set_option maxHeartbeats 800000 in
theorem again_any (a b : Con) (gi su : Int) (li : Bool) (w : World) (g0 : 0 ≤ gi) (g1 : gi < 256) (s0 : 0 ≤ su) (s1 : su < 256) :
    Calls Try.prog 5 #[.agg (con a), .agg (con b), .int .u8 gi, .bool li, .int .u8 su] w fun e w' => e = .returned (.bool true) ∧ Below w.heap.size w w' := by
  go_enter Try.func5, Try.ntmps5
  go_wp2_with fail
  have hnW : New w ((w.alloc (Obj.cells (con a) 23)).alloc (Obj.cells (con b) 23)) := ((New.rfl' w).alloc' _).alloc' _
  generalize hW : ((w.alloc (Obj.cells (con a) 23)).alloc (Obj.cells (con b) 23)) = W at *
  have hWz0 : w.heap.size < W.heap.size := by rw [← hW]; simp only [World.size_alloc]; omega
  have hWa0 : rowAt W (w.heap.size) = con a := by rw [← hW]; simp [go_sem]
  have hWo0 : rowOk W (w.heap.size) = true := by rw [← hW]; simp [go_sem]
  have hWz1 : w.heap.size + 1 < W.heap.size := by rw [← hW]; simp only [World.size_alloc]; omega
  have hWa1 : rowAt W (w.heap.size + 1) = con b := by rw [← hW]; simp [go_sem]
  have hWo1 : rowOk W (w.heap.size + 1) = true := by rw [← hW]; simp [go_sem]
  clear hW
  have hWA := fun w' (h : New W w') n hn => rowAt_below h n hn
  have hWO := fun w' (h : New W w') n hn => rowOk_below h n hn
  have hWS := fun w' (h : New W w') n (hn : n < W.heap.size) => eq_true (Nat.lt_of_lt_of_le hn h.size)
  have hr := New.rfl' W
  go_wp2_with (go_at_call 8; refine (merge_any _ _ _ _ _ _ (by omega) (by omega) (by omega) (by omega)).mono ?_; rintro e w1 ⟨rfl, hb⟩; have hb' := New.call (by assumption) hb; clear hb)
  have e1 := mg_idem a b gi li su
  have e2 := mg_only a b gi li su
  generalize mg a b gi li su = x at *
  have hnV : New W (w1.alloc (Obj.cells (con x) 23)) := New.alloc' hb' _
  have hVz0 : w.heap.size + 1 < (w1.alloc (Obj.cells (con x) 23)).heap.size := by go_simp
  have hVa0 : rowAt (w1.alloc (Obj.cells (con x) 23)) (w.heap.size + 1) = con b := by go_simp
  have hVo0 : rowOk (w1.alloc (Obj.cells (con x) 23)) (w.heap.size + 1) = true := by go_simp
  have hVz1 : w1.heap.size < (w1.alloc (Obj.cells (con x) 23)).heap.size := by go_simp
  have hVa1 : rowAt (w1.alloc (Obj.cells (con x) 23)) (w1.heap.size) = con x := by go_simp
  have hVo1 : rowOk (w1.alloc (Obj.cells (con x) 23)) (w1.heap.size) = true := by go_simp
  generalize hV : w1.alloc (Obj.cells (con x) 23) = V at *
  clear hV
  have hVA := fun w' (h : New V w') n hn => rowAt_below h n hn
  have hVO := fun w' (h : New V w') n hn => rowOk_below h n hn
  have hVS := fun w' (h : New V w') n (hn : n < V.heap.size) => eq_true (Nat.lt_of_lt_of_le hn h.size)
  clear hWA hWO hWS hWa0 hWo0 hWz0 hWa1 hWo1 hWz1 hb' hr
  go_region_held3 (fun w' => New V w') (first | exact (New.rfl' V).drew' | exact New.call (by assumption) hb)
    (first
    | (go_at_call 8; refine (merge_any _ _ _ _ _ _ (by omega) (by omega) (by omega) (by omega)).mono ?_; rintro e w1 ⟨rfl, hb⟩)
    | (go_at_call 12; refine (same_any _ _ _ _ (by omega) (by omega)).mono ?_; rintro e w1 ⟨rfl, hb⟩)
    | (go_at_call 9; refine (lives_any _).mono ?_; rintro e w1 ⟨rfl, hb⟩))
  go_wp2
  go_ret
  exact ⟨rfl, (hnW.call hnV).call (by assumption)⟩
end Go.Proofs.Ytaiejpjiacnfpaa
