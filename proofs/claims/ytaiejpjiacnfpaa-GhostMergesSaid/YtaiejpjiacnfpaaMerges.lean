/- For every input: of all properties a merge is the new contact; of what is unlike, too; with a list, and nothing given, what is listed is empty, and the rest as it was. Conditions: none beyond the given statement's own. -/
import Derived.Test.YtaiejpjiacnfpaaGhost
namespace Go.Proofs.Ytaiejpjiacnfpaa
open Go.RowKit
set_option linter.unusedSimpArgs false
attribute [local go_sem] rowAt_alloc_at rowAt_alloc_past rowOk_alloc_at rowOk_alloc_past rowAt_drew rowOk_drew setRow_alloc_at setRow_alloc_past rowAt_setRow rowAt_setRow_far rowOk_setRow cell_rowOk frozen_rowOk setCell_rowOk setRow_setRow con_fold con_get con_size con_set set_all none8_cells equalIn_con storeCells_con

theorem bit_all (p : Nat) (h : p < 8) : bit 255 p = true := by
  have : ∀ p : Nat, p < 8 → (255 : Nat).testBit p = true := by decide
  exact this p h
theorem mg_all (a b : Con) (li : Bool) (su : Int) : mg a b 255 li su = b := by
  apply Vector.ext
  intro i hi
  rw [mg_get _ _ _ _ _ i hi, mg1, bit_all i hi, if_pos rfl]
theorem mg_unl (a b : Con) (su : Int) : mg a b (unl a b : Nat) false su = b := by
  apply Vector.ext
  intro i hi
  rw [mg_get _ _ _ _ _ i hi, mg1]
  have h : bit (unl a b : Nat) i = decide (a[i] ≠ b[i]) := by
    show (unl a b).testBit i = _
    rw [unl, mask8_bit _ i hi]; simp [hi]
  rw [h]
  by_cases e : a[i] = b[i] <;> simp [e]
theorem mg_cleared (a b : Con) (su : Int) : mg none8 (mg a b 0 true su) su false 0 = none8 := by
  apply Vector.ext
  intro i hi
  rw [mg_get _ _ _ _ _ i hi, mg1, mg_get _ _ _ _ _ i hi, mg1]
  have h0 : bit 0 i = false := by simp [bit]
  rw [h0]
  cases bit su i <;> simp [none8]
theorem mg_rest (a b : Con) (su m : Int) (hm : ∀ p, p < 8 → bit m p = !bit su p) : mg none8 (mg a b 0 true su) m false 0 = mg none8 a m false 0 := by
  apply Vector.ext
  intro i hi
  rw [mg_get _ _ _ _ _ i hi, mg_get _ _ _ _ _ i hi, mg1, mg1, mg_get _ _ _ _ _ i hi, mg1]
  have h0 : bit 0 i = false := by simp [bit]
  rw [h0, hm i hi]
  cases bit su i <;> simp
theorem byte_not (su : Int) (s0 : 0 ≤ su) (s1 : su < 256) : ∃ m : Int, 0 ≤ m ∧ m < 256 ∧ bits BinOp.xor IntKind.u8 (if IntKind.u8.signed = true then -1 else IntKind.u8.max) su = m ∧ ∀ p, p < 8 → bit m p = !bit su p := by
  have h : ∀ m : Nat, m < 256 → 0 ≤ bits BinOp.xor IntKind.u8 255 (m : Int) ∧ bits BinOp.xor IntKind.u8 255 (m : Int) < 256 ∧ ∀ p : Nat, p < 8 → (bits BinOp.xor IntKind.u8 255 (m : Int)).toNat.testBit p = !m.testBit p := by decide +kernel
  obtain ⟨h1, h2, h3⟩ := h su.toNat (by omega)
  rw [show ((su.toNat : Nat) : Int) = su from by omega] at h1 h2 h3
  exact ⟨_, h1, h2, rfl, h3⟩

set_option maxHeartbeats 800000 in
theorem merges_any (a b : Con) (su : Int) (li : Bool) (w : World) (s0 : 0 ≤ su) (s1 : su < 256) :
    Calls Try.prog 4 #[.agg (con a), .agg (con b), .bool li, .int .u8 su] w fun e w' => e = .returned (.bool true) ∧ Below w.heap.size w w' := by
  obtain ⟨m, m0, m1, hm, hmb⟩ := byte_not su s0 s1
  go_enter Try.func4, Try.ntmps4
  go_wp2_with fail
  have hnW : New w ((w.alloc (Obj.cells (con a) 23)).alloc (Obj.cells (con b) 23)) := ((New.rfl' w).alloc' _).alloc' _
  generalize hW : ((w.alloc (Obj.cells (con a) 23)).alloc (Obj.cells (con b) 23)) = W at *
  have hWz0 : w.heap.size < W.heap.size := by rw [← hW]; simp only [World.size_alloc]; omega
  have hWa0 : rowAt W (w.heap.size) = con a := by rw [← hW]; simp [go_sem]
  have hWo0 : rowOk W (w.heap.size) = true := by rw [← hW]; simp [go_sem]
  have hWz1 : w.heap.size + 1 < W.heap.size := by rw [← hW]; simp only [World.size_alloc]; omega
  have hWa1 : rowAt W (w.heap.size + 1) = con b := by rw [← hW]; simp [go_sem]
  have hWo1 : rowOk W (w.heap.size + 1) = true := by rw [← hW]; simp [go_sem]
  clear hW
  have hWA := fun w' (h : New W w') n hn => rowAt_below h n hn
  have hWO := fun w' (h : New W w') n hn => rowOk_below h n hn
  have hWS := fun w' (h : New W w') n (hn : n < W.heap.size) => eq_true (Nat.lt_of_lt_of_le hn h.size)
  have hr := New.rfl' W
  have e1 := mg_all a b li su
  have e2 := mg_unl a b su
  have e3 := mg_cleared a b su
  have e4 := mg_rest a b su m hmb
  have hu := mask8_lt fun p => decide (a[p]! ≠ b[p]!)
  change unl a b < 256 at hu
  clear hmb
  go_wp2_with (go_at_call 8; refine (merge_any _ _ _ _ _ _ (by omega) (by omega) (by omega) (by omega)).mono ?_; rintro e w1 ⟨rfl, hb⟩; have hb' := New.call (by assumption) hb; clear hb)
  generalize mg a b 0 true su = x at *
  have hnV : New W (w1.alloc (Obj.cells (con x) 23)) := New.alloc' hb' _
  have hVz0 : w.heap.size < (w1.alloc (Obj.cells (con x) 23)).heap.size := by go_simp
  have hVa0 : rowAt (w1.alloc (Obj.cells (con x) 23)) (w.heap.size) = con a := by go_simp
  have hVo0 : rowOk (w1.alloc (Obj.cells (con x) 23)) (w.heap.size) = true := by go_simp
  have hVz1 : w.heap.size + 1 < (w1.alloc (Obj.cells (con x) 23)).heap.size := by go_simp
  have hVa1 : rowAt (w1.alloc (Obj.cells (con x) 23)) (w.heap.size + 1) = con b := by go_simp
  have hVo1 : rowOk (w1.alloc (Obj.cells (con x) 23)) (w.heap.size + 1) = true := by go_simp
  have hVz2 : w1.heap.size < (w1.alloc (Obj.cells (con x) 23)).heap.size := by go_simp
  have hVa2 : rowAt (w1.alloc (Obj.cells (con x) 23)) (w1.heap.size) = con x := by go_simp
  have hVo2 : rowOk (w1.alloc (Obj.cells (con x) 23)) (w1.heap.size) = true := by go_simp
  generalize hV : w1.alloc (Obj.cells (con x) 23) = V at *
  clear hV
  have hVA := fun w' (h : New V w') n hn => rowAt_below h n hn
  have hVO := fun w' (h : New V w') n hn => rowOk_below h n hn
  have hVS := fun w' (h : New V w') n (hn : n < V.heap.size) => eq_true (Nat.lt_of_lt_of_le hn h.size)
  clear hWA hWO hWS hWa0 hWo0 hWz0 hWa1 hWo1 hWz1 hb' hr
  go_region_held3 (fun w' => New V w') (first | exact (New.rfl' V).drew' | exact New.call (by assumption) hb)
    (first
    | (go_at_call 8; refine (merge_any _ _ _ _ _ _ (by omega) (by omega) (by omega) (by omega)).mono ?_; rintro e w1 ⟨rfl, hb⟩)
    | (go_at_call 12; refine (same_any _ _ _ _ (by omega) (by omega)).mono ?_; rintro e w1 ⟨rfl, hb⟩)
    | (go_at_call 11; refine (only_any _ _ _ (by omega) (by omega)).mono ?_; rintro e w1 ⟨rfl, hb⟩)
    | (go_at_call 10; refine (unlike_eq _ _ _).mono ?_; rintro e w1 ⟨rfl, hb⟩)
    | (go_at_call 9; refine (lives_any _).mono ?_; rintro e w1 ⟨rfl, hb⟩))
  go_wp2
  go_ret
  exact ⟨rfl, (hnW.call hnV).call (by assumption)⟩
end Go.Proofs.Ytaiejpjiacnfpaa
