/- Contracts of the reference of the layer item: Drop, Change. -/
import Derived.Test.YtkgebhmlogddcaaItemRef3
namespace Go.Proofs.Ytkgebhmlogddcaa
open Go.RowKit
set_option linter.unusedSimpArgs false
attribute [local go_sem] rowAt_alloc_at rowAt_alloc_past rowOk_alloc_at rowOk_alloc_past rowAt_drew rowOk_drew setRow_alloc_at setRow_alloc_past rowAt_setRow rowAt_setRow_far rowOk_setRow cell_rowOk frozen_rowOk setCell_rowOk setRow_setRow con_fold con_get con_size con_set set_all none8_cells equalIn_con storeCells_con
attribute [local go_sem] it_size it_0 it_1 it_2 it_3 it_4 it_5 it_6 it_7 it_8 it_9 it_10 it_set0 it_set1 it_set2 it_fold it_zero it_eta it_fill run_storeCells_it
attribute [local go_sem high] equalIn_it
attribute [local go_sem] run_storeCells_itp eqg_it

set_option maxHeartbeats 800000 in
theorem refDrop_bad (A : Option Addr) (n c : Nat) (l : List It) (id : Int) (w : World) (hl : KI.Rd w A n l) (hn : n ≤ 140737488355328) (hP : PosI l) (hm : mayI l = false) :
    Calls Try.prog 17 #[.slice A n c, .int .u32 id] w fun e w' => e = .returned (.tuple #[.slice none 0 0, .int .i64 2]) ∧ New w w' := by
  obtain rfl : l.length = n := hl.1
  have hA1 := refmay_any A l.length c l
  rw [hm] at hA1
  have HA := Lib.hid hA1
  clear hA1 hm
  go_enter Try.func17, Try.ntmps17
  have hwA := fun w' (h : New w w') n hn => rowAt_below h n hn
  have hwO := fun w' (h : New w w') n hn => rowOk_below h n hn
  have hwS := fun w' (h : New w w') n (hn : n < w.heap.size) => eq_true (Nat.lt_of_lt_of_le hn h.size)
  have hl2 := hl
  go_wp2_with (first
    | (go_at_call 25; refine (HA.out _ hl2 (by omega) hP).mono ?_; rintro e w1 ⟨rfl, hb1⟩))
  go_ret2
  exact ⟨rfl, hb1⟩
set_option maxHeartbeats 800000 in
theorem refDrop_none (A : Option Addr) (n c : Nat) (l : List It) (id : Int) (w : World) (hl : KI.Rd w A n l) (hn : n ≤ 140737488355328) (hP : PosI l) (hm : mayI l = true) (h3 : hasI l id = false) :
    Calls Try.prog 17 #[.slice A n c, .int .u32 id] w fun e w' => e = .returned (.tuple #[.slice none 0 0, .int .i64 7]) ∧ New w w' := by
  obtain rfl : l.length = n := hl.1
  have hA1 := refmay_any A l.length c l
  rw [hm] at hA1
  have HA := Lib.hid hA1
  have hB1 := refplace_any A l.length c l id
  rw [show atI l id = -1 by rw [atI, h3]; rfl] at hB1
  generalize posI l id = p at *
  have HB := Lib.hid hB1
  clear hB1 h3
  clear hA1 hm
  go_enter Try.func17, Try.ntmps17
  have hwA := fun w' (h : New w w') n hn => rowAt_below h n hn
  have hwO := fun w' (h : New w w') n hn => rowOk_below h n hn
  have hwS := fun w' (h : New w w') n (hn : n < w.heap.size) => eq_true (Nat.lt_of_lt_of_le hn h.size)
  have hl2 := hl
  go_wp2_with (first
    | (go_at_call 25; refine (HA.out _ hl2 (by omega) hP).mono ?_; rintro e w1 ⟨rfl, hb1⟩)
    | (go_at_call 49; refine (HB.out _ (hl2.new hb1) (by omega)).mono ?_; rintro e w2 ⟨rfl, hb⟩; have hb2 := New.call hb1 hb; clear hb))
  go_ret2
  exact ⟨rfl, hb2⟩
set_option maxHeartbeats 800000 in
theorem refChange_bad1 (A : Option Addr) (n c : Nat) (l : List It) (x : It) (w : World) (hl : KI.Rd w A n l) (hn : n ≤ 140737488355328) (hP : PosI l) (hm : mayI l = false) :
    Calls Try.prog 15 #[.slice A n c, .agg (itA x)] w fun e w' => e = .returned (.tuple #[.slice none 0 0, .int .i64 2]) ∧ New w w' := by
  obtain rfl : l.length = n := hl.1
  have hA1 := refmay_any A l.length c l
  rw [hm] at hA1
  have HA := Lib.hid hA1
  clear hA1 hm
  go_enter Try.func15, Try.ntmps15
  go_wp2_with fail
  have hnW : New w (w.alloc (Obj.cells (itA x) 28)) := (New.rfl' w).alloc' _
  generalize hW : (w.alloc (Obj.cells (itA x) 28)) = W at *
  have hWz0 : w.heap.size < W.heap.size := by rw [← hW]; simp only [World.size_alloc]; omega
  have hWa0 : rowAt W (w.heap.size) = itA x := by rw [← hW]; simp [go_sem]
  have hWo0 : rowOk W (w.heap.size) = true := by rw [← hW]; simp [go_sem]
  clear hW
  have hWA := fun w' (h : New W w') n hn => rowAt_below h n hn
  have hWO := fun w' (h : New W w') n hn => rowOk_below h n hn
  have hWS := fun w' (h : New W w') n (hn : n < W.heap.size) => eq_true (Nat.lt_of_lt_of_le hn h.size)
  have hl2 := hl.new hnW
  go_wp2_with (first
    | (go_at_call 25; refine (HA.out _ hl2 (by omega) hP).mono ?_; rintro e w1 ⟨rfl, hb1⟩))
  go_ret2
  exact ⟨rfl, hnW.call hb1⟩
set_option maxHeartbeats 800000 in
theorem refChange_bad2 (A : Option Addr) (n c : Nat) (l : List It) (x : It) (w : World) (hl : KI.Rd w A n l) (hn : n ≤ 140737488355328) (hP : PosI l) (hm : mayI l = true) (h2 : (x.2.1 == 0) = true) :
    Calls Try.prog 15 #[.slice A n c, .agg (itA x)] w fun e w' => e = .returned (.tuple #[.slice none 0 0, .int .i64 2]) ∧ New w w' := by
  obtain rfl : l.length = n := hl.1
  have hA1 := refmay_any A l.length c l
  rw [hm] at hA1
  have HA := Lib.hid hA1
  clear hA1 hm
  go_enter Try.func15, Try.ntmps15
  go_wp2_with fail
  have hnW : New w (w.alloc (Obj.cells (itA x) 28)) := (New.rfl' w).alloc' _
  generalize hW : (w.alloc (Obj.cells (itA x) 28)) = W at *
  have hWz0 : w.heap.size < W.heap.size := by rw [← hW]; simp only [World.size_alloc]; omega
  have hWa0 : rowAt W (w.heap.size) = itA x := by rw [← hW]; simp [go_sem]
  have hWo0 : rowOk W (w.heap.size) = true := by rw [← hW]; simp [go_sem]
  clear hW
  have hWA := fun w' (h : New W w') n hn => rowAt_below h n hn
  have hWO := fun w' (h : New W w') n hn => rowOk_below h n hn
  have hWS := fun w' (h : New W w') n (hn : n < W.heap.size) => eq_true (Nat.lt_of_lt_of_le hn h.size)
  have hl2 := hl.new hnW
  go_wp2_with (first
    | (go_at_call 25; refine (HA.out _ hl2 (by omega) hP).mono ?_; rintro e w1 ⟨rfl, hb1⟩))
  go_ret2
  exact ⟨rfl, hnW.call hb1⟩
set_option maxHeartbeats 800000 in
theorem refChange_none (A : Option Addr) (n c : Nat) (l : List It) (x : It) (w : World) (hl : KI.Rd w A n l) (hn : n ≤ 140737488355328) (hP : PosI l) (hm : mayI l = true) (h2 : (x.2.1 == 0) = false) (h3 : hasI l x.1 = false) :
    Calls Try.prog 15 #[.slice A n c, .agg (itA x)] w fun e w' => e = .returned (.tuple #[.slice none 0 0, .int .i64 7]) ∧ New w w' := by
  obtain rfl : l.length = n := hl.1
  have hA1 := refmay_any A l.length c l
  rw [hm] at hA1
  have HA := Lib.hid hA1
  have hB1 := refplace_any A l.length c l x.1
  rw [show atI l x.1 = -1 by rw [atI, h3]; rfl] at hB1
  generalize posI l x.1 = p at *
  have HB := Lib.hid hB1
  clear hB1 h3
  clear hA1 hm
  go_enter Try.func15, Try.ntmps15
  go_wp2_with fail
  have hnW : New w (w.alloc (Obj.cells (itA x) 28)) := (New.rfl' w).alloc' _
  generalize hW : (w.alloc (Obj.cells (itA x) 28)) = W at *
  have hWz0 : w.heap.size < W.heap.size := by rw [← hW]; simp only [World.size_alloc]; omega
  have hWa0 : rowAt W (w.heap.size) = itA x := by rw [← hW]; simp [go_sem]
  have hWo0 : rowOk W (w.heap.size) = true := by rw [← hW]; simp [go_sem]
  clear hW
  have hWA := fun w' (h : New W w') n hn => rowAt_below h n hn
  have hWO := fun w' (h : New W w') n hn => rowOk_below h n hn
  have hWS := fun w' (h : New W w') n (hn : n < W.heap.size) => eq_true (Nat.lt_of_lt_of_le hn h.size)
  have hl2 := hl.new hnW
  go_wp2_with (first
    | (go_at_call 25; refine (HA.out _ hl2 (by omega) hP).mono ?_; rintro e w1 ⟨rfl, hb1⟩)
    | (go_at_call 49; refine (HB.out _ (hl2.new hb1) (by omega)).mono ?_; rintro e w2 ⟨rfl, hb⟩; have hb2 := New.call hb1 hb; clear hb))
  go_ret2
  exact ⟨rfl, hnW.call hb2⟩
set_option maxHeartbeats 800000 in
theorem refAdd_bad1 (A : Option Addr) (n c : Nat) (l : List It) (x : It) (w : World) (hl : KI.Rd w A n l) (hn : n ≤ 140737488355328) (hP : PosI l) (hm : mayI l = false) :
    Calls Try.prog 13 #[.slice A n c, .agg (itA x)] w fun e w' => e = .returned (.tuple #[.slice none 0 0, .int .i64 2]) ∧ New w w' := by
  obtain rfl : l.length = n := hl.1
  have hA1 := refmay_any A l.length c l
  rw [hm] at hA1
  have HA := Lib.hid hA1
  clear hA1 hm
  go_enter Try.func13, Try.ntmps13
  go_wp2_with fail
  have hnW : New w (w.alloc (Obj.cells (itA x) 28)) := (New.rfl' w).alloc' _
  generalize hW : (w.alloc (Obj.cells (itA x) 28)) = W at *
  have hWz0 : w.heap.size < W.heap.size := by rw [← hW]; simp only [World.size_alloc]; omega
  have hWa0 : rowAt W (w.heap.size) = itA x := by rw [← hW]; simp [go_sem]
  have hWo0 : rowOk W (w.heap.size) = true := by rw [← hW]; simp [go_sem]
  clear hW
  have hWA := fun w' (h : New W w') n hn => rowAt_below h n hn
  have hWO := fun w' (h : New W w') n hn => rowOk_below h n hn
  have hWS := fun w' (h : New W w') n (hn : n < W.heap.size) => eq_true (Nat.lt_of_lt_of_le hn h.size)
  have hl2 := hl.new hnW
  go_wp2_with (first
    | (go_at_call 25; refine (HA.out _ hl2 (by omega) hP).mono ?_; rintro e w1 ⟨rfl, hb1⟩))
  go_ret2
  exact ⟨rfl, hnW.call hb1⟩
set_option maxHeartbeats 800000 in
theorem refAdd_bad2 (A : Option Addr) (n c : Nat) (l : List It) (x : It) (w : World) (hl : KI.Rd w A n l) (hn : n ≤ 140737488355328) (hP : PosI l) (hm : mayI l = true) (h1 : (x.1 == 0) = true) :
    Calls Try.prog 13 #[.slice A n c, .agg (itA x)] w fun e w' => e = .returned (.tuple #[.slice none 0 0, .int .i64 2]) ∧ New w w' := by
  obtain rfl : l.length = n := hl.1
  have hA1 := refmay_any A l.length c l
  rw [hm] at hA1
  have HA := Lib.hid hA1
  clear hA1 hm
  go_enter Try.func13, Try.ntmps13
  go_wp2_with fail
  have hnW : New w (w.alloc (Obj.cells (itA x) 28)) := (New.rfl' w).alloc' _
  generalize hW : (w.alloc (Obj.cells (itA x) 28)) = W at *
  have hWz0 : w.heap.size < W.heap.size := by rw [← hW]; simp only [World.size_alloc]; omega
  have hWa0 : rowAt W (w.heap.size) = itA x := by rw [← hW]; simp [go_sem]
  have hWo0 : rowOk W (w.heap.size) = true := by rw [← hW]; simp [go_sem]
  clear hW
  have hWA := fun w' (h : New W w') n hn => rowAt_below h n hn
  have hWO := fun w' (h : New W w') n hn => rowOk_below h n hn
  have hWS := fun w' (h : New W w') n (hn : n < W.heap.size) => eq_true (Nat.lt_of_lt_of_le hn h.size)
  have hl2 := hl.new hnW
  go_wp2_with (first
    | (go_at_call 25; refine (HA.out _ hl2 (by omega) hP).mono ?_; rintro e w1 ⟨rfl, hb1⟩))
  go_ret2
  exact ⟨rfl, hnW.call hb1⟩
set_option maxHeartbeats 800000 in
theorem refAdd_bad3 (A : Option Addr) (n c : Nat) (l : List It) (x : It) (w : World) (hl : KI.Rd w A n l) (hn : n ≤ 140737488355328) (hP : PosI l) (hm : mayI l = true) (h1 : (x.1 == 0) = false) (h2 : (x.2.1 == 0) = true) :
    Calls Try.prog 13 #[.slice A n c, .agg (itA x)] w fun e w' => e = .returned (.tuple #[.slice none 0 0, .int .i64 2]) ∧ New w w' := by
  obtain rfl : l.length = n := hl.1
  have hA1 := refmay_any A l.length c l
  rw [hm] at hA1
  have HA := Lib.hid hA1
  clear hA1 hm
  go_enter Try.func13, Try.ntmps13
  go_wp2_with fail
  have hnW : New w (w.alloc (Obj.cells (itA x) 28)) := (New.rfl' w).alloc' _
  generalize hW : (w.alloc (Obj.cells (itA x) 28)) = W at *
  have hWz0 : w.heap.size < W.heap.size := by rw [← hW]; simp only [World.size_alloc]; omega
  have hWa0 : rowAt W (w.heap.size) = itA x := by rw [← hW]; simp [go_sem]
  have hWo0 : rowOk W (w.heap.size) = true := by rw [← hW]; simp [go_sem]
  clear hW
  have hWA := fun w' (h : New W w') n hn => rowAt_below h n hn
  have hWO := fun w' (h : New W w') n hn => rowOk_below h n hn
  have hWS := fun w' (h : New W w') n (hn : n < W.heap.size) => eq_true (Nat.lt_of_lt_of_le hn h.size)
  have hl2 := hl.new hnW
  go_wp2_with (first
    | (go_at_call 25; refine (HA.out _ hl2 (by omega) hP).mono ?_; rintro e w1 ⟨rfl, hb1⟩))
  go_ret2
  exact ⟨rfl, hnW.call hb1⟩
set_option maxHeartbeats 800000 in
theorem refAdd_twice (A : Option Addr) (n c : Nat) (l : List It) (x : It) (w : World) (hl : KI.Rd w A n l) (hn : n ≤ 140737488355328) (hP : PosI l) (hm : mayI l = true) (h1 : (x.1 == 0) = false) (h2 : (x.2.1 == 0) = false) (h3 : hasI l x.1 = true) :
    Calls Try.prog 13 #[.slice A n c, .agg (itA x)] w fun e w' => e = .returned (.tuple #[.slice none 0 0, .int .i64 8]) ∧ New w w' := by
  obtain rfl : l.length = n := hl.1
  have hA1 := refmay_any A l.length c l
  rw [hm] at hA1
  have HA := Lib.hid hA1
  have hB1 := refplace_any A l.length c l x.1
  rw [show atI l x.1 = (posI l x.1 : Nat) from atI_pos l x.1 (risI_of l hm) h3] at hB1
  generalize posI l x.1 = p at *
  have HB := Lib.hid hB1
  clear hB1 h3
  clear hA1 hm
  go_enter Try.func13, Try.ntmps13
  go_wp2_with fail
  have hnW : New w (w.alloc (Obj.cells (itA x) 28)) := (New.rfl' w).alloc' _
  generalize hW : (w.alloc (Obj.cells (itA x) 28)) = W at *
  have hWz0 : w.heap.size < W.heap.size := by rw [← hW]; simp only [World.size_alloc]; omega
  have hWa0 : rowAt W (w.heap.size) = itA x := by rw [← hW]; simp [go_sem]
  have hWo0 : rowOk W (w.heap.size) = true := by rw [← hW]; simp [go_sem]
  clear hW
  have hWA := fun w' (h : New W w') n hn => rowAt_below h n hn
  have hWO := fun w' (h : New W w') n hn => rowOk_below h n hn
  have hWS := fun w' (h : New W w') n (hn : n < W.heap.size) => eq_true (Nat.lt_of_lt_of_le hn h.size)
  have hl2 := hl.new hnW
  go_wp2_with (first
    | (go_at_call 25; refine (HA.out _ hl2 (by omega) hP).mono ?_; rintro e w1 ⟨rfl, hb1⟩)
    | (go_at_call 49; refine (HB.out _ (hl2.new hb1) (by omega)).mono ?_; rintro e w2 ⟨rfl, hb⟩; have hb2 := New.call hb1 hb; clear hb))
  go_ret2
  exact ⟨rfl, hnW.call hb2⟩
set_option maxHeartbeats 800000 in
theorem refAdd_limit (A : Option Addr) (n c : Nat) (l : List It) (x : It) (w : World) (hl : KI.Rd w A n l) (hn : n ≤ 140737488355328) (hP : PosI l) (hm : mayI l = true) (h1 : (x.1 == 0) = false) (h2 : (x.2.1 == 0) = false) (h3 : hasI l x.1 = false) (h40 : (40 : Int) ≤ (l.length : Int)) :
    Calls Try.prog 13 #[.slice A n c, .agg (itA x)] w fun e w' => e = .returned (.tuple #[.slice none 0 0, .int .i64 3]) ∧ New w w' := by
  obtain rfl : l.length = n := hl.1
  have hA1 := refmay_any A l.length c l
  rw [hm] at hA1
  have HA := Lib.hid hA1
  have hB1 := refplace_any A l.length c l x.1
  rw [show atI l x.1 = -1 by rw [atI, h3]; rfl] at hB1
  generalize posI l x.1 = p at *
  have HB := Lib.hid hB1
  clear hB1 h3
  clear hA1 hm
  go_enter Try.func13, Try.ntmps13
  go_wp2_with fail
  have hnW : New w (w.alloc (Obj.cells (itA x) 28)) := (New.rfl' w).alloc' _
  generalize hW : (w.alloc (Obj.cells (itA x) 28)) = W at *
  have hWz0 : w.heap.size < W.heap.size := by rw [← hW]; simp only [World.size_alloc]; omega
  have hWa0 : rowAt W (w.heap.size) = itA x := by rw [← hW]; simp [go_sem]
  have hWo0 : rowOk W (w.heap.size) = true := by rw [← hW]; simp [go_sem]
  clear hW
  have hWA := fun w' (h : New W w') n hn => rowAt_below h n hn
  have hWO := fun w' (h : New W w') n hn => rowOk_below h n hn
  have hWS := fun w' (h : New W w') n (hn : n < W.heap.size) => eq_true (Nat.lt_of_lt_of_le hn h.size)
  have hl2 := hl.new hnW
  go_wp2_with (first
    | (go_at_call 25; refine (HA.out _ hl2 (by omega) hP).mono ?_; rintro e w1 ⟨rfl, hb1⟩)
    | (go_at_call 49; refine (HB.out _ (hl2.new hb1) (by omega)).mono ?_; rintro e w2 ⟨rfl, hb⟩; have hb2 := New.call hb1 hb; clear hb))
  go_ret2
  exact ⟨rfl, hnW.call hb2⟩
end Go.Proofs.Ytkgebhmlogddcaa
