/- The law ItemTells, walked. -/
import Derived.Test.YtkgebhmlogddcaaItemLives
namespace Go.Proofs.Ytkgebhmlogddcaa
open Go.RowKit
set_option linter.unusedSimpArgs false
attribute [local go_sem] rowAt_alloc_at rowAt_alloc_past rowOk_alloc_at rowOk_alloc_past rowAt_drew rowOk_drew setRow_alloc_at setRow_alloc_past rowAt_setRow rowAt_setRow_far rowOk_setRow cell_rowOk frozen_rowOk setCell_rowOk setRow_setRow con_fold con_get con_size con_set set_all none8_cells equalIn_con storeCells_con
attribute [local go_sem] it_size it_0 it_1 it_2 it_3 it_4 it_5 it_6 it_7 it_8 it_9 it_10 it_set0 it_set1 it_set2 it_fold it_zero it_eta it_fill run_storeCells_it
attribute [local go_sem high] equalIn_it
attribute [local go_sem] eqg_it

theorem inI_len (l : List It) (fo : Int) : (inI l fo).length ≤ l.length := by
  unfold inI thoseI; split
  · exact List.length_filter_le _ _
  · simp
theorem withoutI_len (l : List It) (fs : List Int) : (withoutI l fs).length ≤ l.length := by
  unfold withoutI thoseI; split
  · exact List.length_filter_le _ _
  · simp
set_option maxHeartbeats 1600000 in
set_option maxRecDepth 100000 in
theorem tells_i (A : Option Addr) (n c : Nat) (l : List It) (id fo : Int) (B : Option Addr) (m d : Nat) (fs : List Int) (w : World) (hl : KI.Rd w A n l) (hn : n ≤ 140737488355328) (hf : KU.Rd w B m fs) (hm : m ≤ 140737488355328) (hP : PosI l) :
    Calls Try.prog 6 #[.slice A n c, .int .u32 id, .int .u32 fo, .slice B m d] w fun e w' => e = .returned (.bool true) ∧ New w w' := by
  by_cases h1 : 100 < n
  · have hd : decide (100 < n) = true := by simpa using h1
    go_enter Try.func6, Try.ntmps6
    go_wp2_with (first
      | (go_at_call 10; refine (great_any _ _ _ _).mono ?_; rintro e w1 ⟨rfl, rfl⟩)
      | (go_at_call 11; refine (lives_i _).mono ?_; rintro e w1 ⟨rfl, hb⟩))
    go_ret
    exact ⟨rfl, hb⟩
  have hd : decide (100 < n) = false := by simpa using h1
  by_cases h2 : 100 < m
  · have h2' : (100 : Int) < (m : Int) := by omega
    go_enter Try.func6, Try.ntmps6
    go_wp2_with (first
      | (go_at_call 10; refine (great_any _ _ _ _).mono ?_; rintro e w1 ⟨rfl, rfl⟩)
      | (go_at_call 11; refine (lives_i _).mono ?_; rintro e w1 ⟨rfl, hb⟩))
    go_ret
    exact ⟨rfl, hb⟩
  · have h2' : ¬ (100 : Int) < (m : Int) := by omega
    have HI := Lib.hid (inI_len l fo)
    have HW := Lib.hid (withoutI_len l fs)
    have hll := Lib.hid hl.1
    go_enter Try.func6, Try.ntmps6
    go_wp2_with (first
      | (go_at_call 10; refine (great_any _ _ _ _).mono ?_; rintro e w1 ⟨rfl, rfl⟩)
      | (go_at_call 22; refine (iFind_any _ _ _ l _ _ hl hn).mono ?_; rintro e w1 ⟨rfl, hr1⟩))
    have hnW : New w1 (w1.alloc (Obj.cells (itA ((findI l id).getD itZ)) 28)) := (New.rfl' w1).alloc' _
    generalize hW : (w1.alloc (Obj.cells (itA ((findI l id).getD itZ)) 28)) = W at *
    have hWz0 : w1.heap.size < W.heap.size := by rw [← hW]; simp only [World.size_alloc]; omega
    have hWa0 : rowAt W (w1.heap.size) = itA ((findI l id).getD itZ) := by rw [← hW]; simp [go_sem]
    have hWo0 : rowOk W (w1.heap.size) = true := by rw [← hW]; simp [go_sem]
    clear hW
    have hWA := fun w' (h : New W w') n hn => rowAt_below h n hn
    have hWO := fun w' (h : New W w') n hn => rowOk_below h n hn
    have hWS := fun w' (h : New W w') n (hn : n < W.heap.size) => eq_true (Nat.lt_of_lt_of_le hn h.size)
    have hrW := hr1.call hnW
    go_wp2_with (first
      | (go_at_call 24; refine (reffind_any _ _ _ l _ _ (hl.new hrW) hn hP).mono ?_; rintro e w2 ⟨rfl, hb⟩))
    have hnV : New w2 (w2.alloc (Obj.cells (itA ((findI l id).getD itZ)) 28)) := (New.rfl' w2).alloc' _
    generalize hV : (w2.alloc (Obj.cells (itA ((findI l id).getD itZ)) 28)) = V at *
    have hVz0 : w2.heap.size < V.heap.size := by rw [← hV]; simp only [World.size_alloc]; omega
    have hVa0 : rowAt V (w2.heap.size) = itA ((findI l id).getD itZ) := by rw [← hV]; simp [go_sem]
    have hVo0 : rowOk V (w2.heap.size) = true := by rw [← hV]; simp [go_sem]
    clear hV
    have hVA := fun w' (h : New V w') n hn => rowAt_below h n hn
    have hVO := fun w' (h : New V w') n hn => rowOk_below h n hn
    have hVS := fun w' (h : New V w') n (hn : n < V.heap.size) => eq_true (Nat.lt_of_lt_of_le hn h.size)
    have hWV := hb.call hnV
    have hr := hrW.call hWV
    have hq1 : w1.heap.size < V.heap.size := Nat.lt_of_lt_of_le hWz0 hWV.size
    have hq2 : rowAt V w1.heap.size = itA ((findI l id).getD itZ) := by rw [hWA V hWV _ hWz0, hWa0]
    have hq3 : rowOk V w1.heap.size = true := by rw [hWO V hWV _ hWz0, hWo0]
    clear hWA hWO hWS hWa0 hWo0 hWz0 hnV
    have hV := New.rfl' V
    clear hb
    have hl := hl.new hr
    have hf := hf.new hr
    have hr1 := hr
    have hr := New.rfl' V
    go_wp2_with (first
      | (go_at_call 21; refine (imay_any _ _ _ l _ (hl.new hr) hn).mono ?_; rintro e w2 ⟨rfl, hb⟩; have hr := hr.call hb; clear hb)
      | (go_at_call 25; refine (refmay_any _ _ _ l _ (hl.new hr) hn hP).mono ?_; rintro e w2 ⟨rfl, hb⟩; have hr := hr.call hb; clear hb)
      | (go_at_call 20; refine (iIn_any _ _ _ l _ _ (hl.new hr) hn).mono ?_; rintro e w2 ⟨v, rfl, hv, hb⟩; have hr := hr.call hb; clear hb; obtain ⟨A1, c1, rfl, _, hx⟩ := hv.rd; clear hv)
      | (go_at_call 26; refine (refin_i _ _ _ l _ _ (hl.new hr) hn hP).mono ?_; rintro e w2 ⟨v, rfl, hv, hb⟩; have hr := hr.call hb; have hx := hx.new hb; clear hb; obtain ⟨A2, c2, rfl, _, hy⟩ := hv.rd; clear hv)
      | (go_at_call 23; refine (iWithout_any _ _ _ l _ _ _ fs _ (hl.new hr) hn (hf.new hr) hm).mono ?_; rintro e w2 ⟨v, rfl, hv, hb⟩; have hr := hr.call hb; clear hb; obtain ⟨A1, c1, rfl, _, hx⟩ := hv.rd; clear hv)
      | (go_at_call 27; refine (refwithout_i _ _ _ l _ _ _ fs _ (hl.new hr) hn (hf.new hr) hm hP).mono ?_; rintro e w2 ⟨v, rfl, hv, hb⟩; have hr := hr.call hb; have hx := hx.new hb; clear hb; obtain ⟨A2, c2, rfl, _, hy⟩ := hv.rd; clear hv)
      | (go_at_call 18; refine (refsame_any _ _ _ _ _ _ _ _ _ hx hy (by have := HI.out; have := HW.out; have := hll.out; omega) (by have := HI.out; have := HW.out; have := hll.out; omega)).mono ?_; rintro e w2 ⟨rfl, hb⟩; have hr := hr.call hb; clear hb)
      | (go_at_call 11; refine (lives_i _).mono ?_; rintro e w1 ⟨rfl, hb⟩; have hr := hr.call hb; clear hb))
    go_ret
    exact ⟨rfl, hr1.call hr⟩
end Go.Proofs.Ytkgebhmlogddcaa
