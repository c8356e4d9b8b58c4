/- Contracts of the layer item: Add, Change and Drop, whole. -/
import Derived.Test.YtkgebhmlogddcaaItem4
namespace Go.Proofs.Ytkgebhmlogddcaa
open Go.RowKit
set_option linter.unusedSimpArgs false
attribute [local go_sem] rowAt_alloc_at rowAt_alloc_past rowOk_alloc_at rowOk_alloc_past rowAt_drew rowOk_drew setRow_alloc_at setRow_alloc_past rowAt_setRow rowAt_setRow_far rowOk_setRow cell_rowOk frozen_rowOk setCell_rowOk setRow_setRow con_fold con_get con_size con_set set_all none8_cells equalIn_con storeCells_con
attribute [local go_sem] it_size it_0 it_1 it_2 it_3 it_4 it_5 it_6 it_7 it_8 it_9 it_10 it_set0 it_set1 it_set2 it_fold it_zero it_eta it_fill run_storeCells_it

def chgI (l : List It) (x : It) : List It := l.take (posI l x.1) ++ [x] ++ l.drop (posI l x.1 + 1)
theorem chgI_eq (l : List It) (x : It) : chgI l x = l.take (posI l x.1) ++ [x] ++ l.drop (posI l x.1 + 1) := rfl
def drpI (l : List It) (id : Int) : List It := l.take (posI l id) ++ l.drop (posI l id + 1)
theorem drpI_eq (l : List It) (id : Int) : drpI l id = l.take (posI l id) ++ l.drop (posI l id + 1) := rfl
def changeI (l : List It) (x : It) : List It × Int :=
  if !mayI l || x.2.1 == 0 then ([], 2) else if !hasI l x.1 then ([], 7) else (chgI l x, 0)
def dropI (l : List It) (id : Int) : List It × Int :=
  if !mayI l then ([], 2) else if !hasI l id then ([], 7) else (drpI l id, 0)

set_option maxHeartbeats 800000 in
theorem iAdd_bad1 (A : Option Addr) (n c : Nat) (l : List It) (x : It) (w : World) (hl : KI.Rd w A n l) (hn : n ≤ 140737488355328) (hm : mayI l = false) :
    Calls Try.prog 12 #[.slice A n c, .agg (itA x)] w fun e w' => e = .returned (.tuple #[.slice none 0 0, .int .i64 2]) ∧ New w w' := by
  obtain rfl : l.length = n := hl.1
  have hA1 := imay_any A l.length c l
  rw [hm] at hA1
  have HA := Lib.hid hA1
  clear hA1 hm
  go_enter Try.func12, Try.ntmps12
  go_wp2_with fail
  have hnW : New w (w.alloc (Obj.cells (itA x) 28)) := (New.rfl' w).alloc' _
  generalize hW : (w.alloc (Obj.cells (itA x) 28)) = W at *
  have hWz0 : w.heap.size < W.heap.size := by rw [← hW]; simp only [World.size_alloc]; omega
  have hWa0 : rowAt W (w.heap.size) = itA x := by rw [← hW]; simp [go_sem]
  have hWo0 : rowOk W (w.heap.size) = true := by rw [← hW]; simp [go_sem]
  clear hW
  have hWA := fun w' (h : New W w') n hn => rowAt_below h n hn
  have hWO := fun w' (h : New W w') n hn => rowOk_below h n hn
  have hWS := fun w' (h : New W w') n (hn : n < W.heap.size) => eq_true (Nat.lt_of_lt_of_le hn h.size)
  have hl2 := hl.new hnW
  go_wp2_with (first
    | (go_at_call 21; refine (HA.out _ hl2 hn).mono ?_; rintro e w1 ⟨rfl, hb1⟩))
  go_ret2
  exact ⟨rfl, hnW.call hb1⟩
set_option maxHeartbeats 800000 in
theorem iAdd_bad2 (A : Option Addr) (n c : Nat) (l : List It) (x : It) (w : World) (hl : KI.Rd w A n l) (hn : n ≤ 140737488355328) (hm : mayI l = true) (h1 : (x.1 == 0) = true) :
    Calls Try.prog 12 #[.slice A n c, .agg (itA x)] w fun e w' => e = .returned (.tuple #[.slice none 0 0, .int .i64 2]) ∧ New w w' := by
  obtain rfl : l.length = n := hl.1
  have hA1 := imay_any A l.length c l
  rw [hm] at hA1
  have HA := Lib.hid hA1
  clear hA1 hm
  go_enter Try.func12, Try.ntmps12
  go_wp2_with fail
  have hnW : New w (w.alloc (Obj.cells (itA x) 28)) := (New.rfl' w).alloc' _
  generalize hW : (w.alloc (Obj.cells (itA x) 28)) = W at *
  have hWz0 : w.heap.size < W.heap.size := by rw [← hW]; simp only [World.size_alloc]; omega
  have hWa0 : rowAt W (w.heap.size) = itA x := by rw [← hW]; simp [go_sem]
  have hWo0 : rowOk W (w.heap.size) = true := by rw [← hW]; simp [go_sem]
  clear hW
  have hWA := fun w' (h : New W w') n hn => rowAt_below h n hn
  have hWO := fun w' (h : New W w') n hn => rowOk_below h n hn
  have hWS := fun w' (h : New W w') n (hn : n < W.heap.size) => eq_true (Nat.lt_of_lt_of_le hn h.size)
  have hl2 := hl.new hnW
  go_wp2_with (first
    | (go_at_call 21; refine (HA.out _ hl2 hn).mono ?_; rintro e w1 ⟨rfl, hb1⟩))
  go_ret2
  exact ⟨rfl, hnW.call hb1⟩
set_option maxHeartbeats 800000 in
theorem iAdd_bad3 (A : Option Addr) (n c : Nat) (l : List It) (x : It) (w : World) (hl : KI.Rd w A n l) (hn : n ≤ 140737488355328) (hm : mayI l = true) (h1 : (x.1 == 0) = false) (h2 : (x.2.1 == 0) = true) :
    Calls Try.prog 12 #[.slice A n c, .agg (itA x)] w fun e w' => e = .returned (.tuple #[.slice none 0 0, .int .i64 2]) ∧ New w w' := by
  obtain rfl : l.length = n := hl.1
  have hA1 := imay_any A l.length c l
  rw [hm] at hA1
  have HA := Lib.hid hA1
  clear hA1 hm
  go_enter Try.func12, Try.ntmps12
  go_wp2_with fail
  have hnW : New w (w.alloc (Obj.cells (itA x) 28)) := (New.rfl' w).alloc' _
  generalize hW : (w.alloc (Obj.cells (itA x) 28)) = W at *
  have hWz0 : w.heap.size < W.heap.size := by rw [← hW]; simp only [World.size_alloc]; omega
  have hWa0 : rowAt W (w.heap.size) = itA x := by rw [← hW]; simp [go_sem]
  have hWo0 : rowOk W (w.heap.size) = true := by rw [← hW]; simp [go_sem]
  clear hW
  have hWA := fun w' (h : New W w') n hn => rowAt_below h n hn
  have hWO := fun w' (h : New W w') n hn => rowOk_below h n hn
  have hWS := fun w' (h : New W w') n (hn : n < W.heap.size) => eq_true (Nat.lt_of_lt_of_le hn h.size)
  have hl2 := hl.new hnW
  go_wp2_with (first
    | (go_at_call 21; refine (HA.out _ hl2 hn).mono ?_; rintro e w1 ⟨rfl, hb1⟩))
  go_ret2
  exact ⟨rfl, hnW.call hb1⟩
set_option maxHeartbeats 800000 in
theorem iAdd_twice (A : Option Addr) (n c : Nat) (l : List It) (x : It) (w : World) (hl : KI.Rd w A n l) (hn : n ≤ 140737488355328) (hm : mayI l = true) (h1 : (x.1 == 0) = false) (h2 : (x.2.1 == 0) = false) (h3 : hasI l x.1 = true) :
    Calls Try.prog 12 #[.slice A n c, .agg (itA x)] w fun e w' => e = .returned (.tuple #[.slice none 0 0, .int .i64 8]) ∧ New w w' := by
  obtain rfl : l.length = n := hl.1
  have hA1 := imay_any A l.length c l
  rw [hm] at hA1
  have HA := Lib.hid hA1
  have hris := Lib.hid (risI_of l hm)
  have hB1 := ifind_any A l.length c l x.1
  rw [h3] at hB1
  have HB := Lib.hid hB1
  clear hB1 h3
  clear hA1 hm
  go_enter Try.func12, Try.ntmps12
  go_wp2_with fail
  have hnW : New w (w.alloc (Obj.cells (itA x) 28)) := (New.rfl' w).alloc' _
  generalize hW : (w.alloc (Obj.cells (itA x) 28)) = W at *
  have hWz0 : w.heap.size < W.heap.size := by rw [← hW]; simp only [World.size_alloc]; omega
  have hWa0 : rowAt W (w.heap.size) = itA x := by rw [← hW]; simp [go_sem]
  have hWo0 : rowOk W (w.heap.size) = true := by rw [← hW]; simp [go_sem]
  clear hW
  have hWA := fun w' (h : New W w') n hn => rowAt_below h n hn
  have hWO := fun w' (h : New W w') n hn => rowOk_below h n hn
  have hWS := fun w' (h : New W w') n (hn : n < W.heap.size) => eq_true (Nat.lt_of_lt_of_le hn h.size)
  have hl2 := hl.new hnW
  go_wp2_with (first
    | (go_at_call 21; refine (HA.out _ hl2 hn).mono ?_; rintro e w1 ⟨rfl, hb1⟩)
    | (go_at_call 47; refine (HB.out _ (hl2.new hb1) hn hris.out).mono ?_; rintro e w2 ⟨rfl, hb⟩; have hb2 := New.call hb1 hb; clear hb))
  go_ret2
  exact ⟨rfl, hnW.call hb2⟩
set_option maxHeartbeats 800000 in
theorem iAdd_limit (A : Option Addr) (n c : Nat) (l : List It) (x : It) (w : World) (hl : KI.Rd w A n l) (hn : n ≤ 140737488355328) (hm : mayI l = true) (h1 : (x.1 == 0) = false) (h2 : (x.2.1 == 0) = false) (h3 : hasI l x.1 = false) (h40 : ((l.length : Int) == 40) = true) :
    Calls Try.prog 12 #[.slice A n c, .agg (itA x)] w fun e w' => e = .returned (.tuple #[.slice none 0 0, .int .i64 3]) ∧ New w w' := by
  obtain rfl : l.length = n := hl.1
  have hA1 := imay_any A l.length c l
  rw [hm] at hA1
  have HA := Lib.hid hA1
  have hris := Lib.hid (risI_of l hm)
  have hB1 := ifind_any A l.length c l x.1
  rw [h3] at hB1
  have HB := Lib.hid hB1
  clear hB1 h3
  clear hA1 hm
  go_enter Try.func12, Try.ntmps12
  go_wp2_with fail
  have hnW : New w (w.alloc (Obj.cells (itA x) 28)) := (New.rfl' w).alloc' _
  generalize hW : (w.alloc (Obj.cells (itA x) 28)) = W at *
  have hWz0 : w.heap.size < W.heap.size := by rw [← hW]; simp only [World.size_alloc]; omega
  have hWa0 : rowAt W (w.heap.size) = itA x := by rw [← hW]; simp [go_sem]
  have hWo0 : rowOk W (w.heap.size) = true := by rw [← hW]; simp [go_sem]
  clear hW
  have hWA := fun w' (h : New W w') n hn => rowAt_below h n hn
  have hWO := fun w' (h : New W w') n hn => rowOk_below h n hn
  have hWS := fun w' (h : New W w') n (hn : n < W.heap.size) => eq_true (Nat.lt_of_lt_of_le hn h.size)
  have hl2 := hl.new hnW
  go_wp2_with (first
    | (go_at_call 21; refine (HA.out _ hl2 hn).mono ?_; rintro e w1 ⟨rfl, hb1⟩)
    | (go_at_call 47; refine (HB.out _ (hl2.new hb1) hn hris.out).mono ?_; rintro e w2 ⟨rfl, hb⟩; have hb2 := New.call hb1 hb; clear hb))
  go_ret2
  exact ⟨rfl, hnW.call hb2⟩
set_option maxHeartbeats 800000 in
theorem iChange_ok (A : Option Addr) (n c : Nat) (l : List It) (x : It) (w : World) (hl : KI.Rd w A n l) (hc : n ≤ c) (hm : mayI l = true) (h2 : (x.2.1 == 0) = false) (h3 : hasI l x.1 = true) :
    Calls Try.prog 14 #[.slice A n c, .agg (itA x)] w fun e w' => ∃ v, e = .returned (.tuple #[v, .int .i64 0]) ∧ KI.Own w' w.heap.size v (chgI l x) ∧ New w w' := by
  obtain rfl : l.length = n := hl.1
  have h40 := mayI_len l hm
  obtain ⟨hlt, _, _⟩ := pos_has l x.1 (risI_of l hm) h3
  have hA1 := imay_any A l.length c l
  rw [hm] at hA1
  have HA := Lib.hid hA1
  have hris := Lib.hid (risI_of l hm)
  have hB1 := ifind_any A l.length c l x.1
  rw [h3] at hB1
  have HB := Lib.hid hB1
  have hins := Lib.hid (chgI_eq l x)
  clear hA1 hB1 hm h3
  generalize hpp : posI l x.1 = p at *
  have Hpp := Lib.hid hpp
  clear hpp
  go_enter Try.func14, Try.ntmps14
  go_wp2_with fail
  have hnW : New w (w.alloc (Obj.cells (itA x) 28)) := (New.rfl' w).alloc' _
  generalize hW : (w.alloc (Obj.cells (itA x) 28)) = W at *
  have hWz0 : w.heap.size < W.heap.size := by rw [← hW]; simp only [World.size_alloc]; omega
  have hWa0 : rowAt W (w.heap.size) = itA x := by rw [← hW]; simp [go_sem]
  have hWo0 : rowOk W (w.heap.size) = true := by rw [← hW]; simp [go_sem]
  clear hW
  have hWA := fun w' (h : New W w') n hn => rowAt_below h n hn
  have hWO := fun w' (h : New W w') n hn => rowOk_below h n hn
  have hWS := fun w' (h : New W w') n (hn : n < W.heap.size) => eq_true (Nat.lt_of_lt_of_le hn h.size)
  have hl2 := hl.new hnW
  go_wp2_with (first
    | (go_at_call 21; refine (HA.out _ hl2 (by omega)).mono ?_; rintro e w1 ⟨rfl, hb1⟩)
    | (go_at_call 47; refine (HB.out _ (hl2.new hb1) (by omega) hris.out).mono ?_; rintro e w2 ⟨rfl, hb⟩; have hb2 := New.call hb1 hb; clear hb))
  have i1 : (p : Int) ≤ (l.length : Int) := by omega
  have i2 : (p : Int) ≤ (c : Int) := by omega
  have i3 : (l.length : Int) ≤ (c : Int) := by omega
  have i4 : (p : Int) + 1 ≤ (l.length : Int) := by omega
  have i5 : (p : Int) + 1 ≤ (c : Int) := by omega
  have iw : IntKind.i64.wrap ((p : Int) + 1) = (p : Int) + 1 := by rw [IntKind.wrap_i64]; omega
  have i0 : (0 : Int) ≤ (p : Int) + 1 := by omega
  by_cases hcp : c = p + 1
  · subst hcp
    have i6 : (l.length : Int) ≤ (p : Int) + 1 := by omega
    have i7 : (p : Int) ≤ (p : Int) + 1 := by omega
    have i8 : (0 : Int) ≤ (p : Int) + 1 := by omega
    clear i2 i3 i5
    have hB : KI.Rd w2 A (l.length - (p + 1)) (l.drop (p + 1)) := by have := (hl2.new hb2).cut (k := p + 1) (by omega) hc; rwa [if_pos rfl] at this
    have hC := fun w' h0 h1 h2 h3 h4 => cut3_any (p := p) (res := chgI l x) (c := p + 1) (e := 0) (g := w2.heap.size) (h := w2.heap.size + 1) (x := x) (hl2.new hb2) (by omega) hB (by omega) (by omega) (by rw [hins.out]) w' h0 h1 h2 h3 h4
    go_region_held3 (fun w' => New W w') (first | exact New.drew' hb2 | exact New.call (by assumption) hb | exact New.alloc' (by assumption) _)
      (first | (go_at_call 48; refine (hC _ (New.drew' (((New.rfl' w2).alloc' _).alloc' _)) (by go_simp) (by go_simp) (by go_simp) (by go_simp)).mono ?_; rintro e w4 ⟨A4, c4, rfl, hv4, hb⟩))
    go_wp2
    go_ret2
    exact ⟨_, rfl, hv4.lower (by have := hb2.size; have := hnW.size; simp only [World.size_alloc, World.size_drew]; omega), (hnW.call (by assumption))⟩
  · have hB : KI.Rd w2 (Option.map (fun x => x.add ((p + 1) * 11)) A) (l.length - (p + 1)) (l.drop (p + 1)) := by have := (hl2.new hb2).cut (k := p + 1) (by omega) hc; rwa [if_neg hcp] at this
    have hC := fun w' h0 h1 h2 h3 h4 => cut3_any (p := p) (res := chgI l x) (c := c) (e := c - (p + 1)) (g := w2.heap.size) (h := w2.heap.size + 1) (x := x) (hl2.new hb2) (by omega) hB (by omega) (by omega) (by rw [hins.out]) w' h0 h1 h2 h3 h4
    go_region_held3 (fun w' => New W w') (first | exact New.drew' hb2 | exact New.call (by assumption) hb | exact New.alloc' (by assumption) _)
      (first | (go_at_call 48; refine (hC _ (New.drew' (((New.rfl' w2).alloc' _).alloc' _)) (by go_simp) (by go_simp) (by go_simp) (by go_simp)).mono ?_; rintro e w4 ⟨A4, c4, rfl, hv4, hb⟩))
    go_wp2
    go_ret2
    exact ⟨_, rfl, hv4.lower (by have := hb2.size; have := hnW.size; simp only [World.size_alloc, World.size_drew]; omega), (hnW.call (by assumption))⟩
set_option maxHeartbeats 800000 in
theorem iChange_bad1 (A : Option Addr) (n c : Nat) (l : List It) (x : It) (w : World) (hl : KI.Rd w A n l) (hn : n ≤ 140737488355328) (hm : mayI l = false) :
    Calls Try.prog 14 #[.slice A n c, .agg (itA x)] w fun e w' => e = .returned (.tuple #[.slice none 0 0, .int .i64 2]) ∧ New w w' := by
  obtain rfl : l.length = n := hl.1
  have hA1 := imay_any A l.length c l
  rw [hm] at hA1
  have HA := Lib.hid hA1
  clear hA1 hm
  go_enter Try.func14, Try.ntmps14
  go_wp2_with fail
  have hnW : New w (w.alloc (Obj.cells (itA x) 28)) := (New.rfl' w).alloc' _
  generalize hW : (w.alloc (Obj.cells (itA x) 28)) = W at *
  have hWz0 : w.heap.size < W.heap.size := by rw [← hW]; simp only [World.size_alloc]; omega
  have hWa0 : rowAt W (w.heap.size) = itA x := by rw [← hW]; simp [go_sem]
  have hWo0 : rowOk W (w.heap.size) = true := by rw [← hW]; simp [go_sem]
  clear hW
  have hWA := fun w' (h : New W w') n hn => rowAt_below h n hn
  have hWO := fun w' (h : New W w') n hn => rowOk_below h n hn
  have hWS := fun w' (h : New W w') n (hn : n < W.heap.size) => eq_true (Nat.lt_of_lt_of_le hn h.size)
  have hl2 := hl.new hnW
  go_wp2_with (first
    | (go_at_call 21; refine (HA.out _ hl2 hn).mono ?_; rintro e w1 ⟨rfl, hb1⟩))
  go_ret2
  exact ⟨rfl, hnW.call hb1⟩
set_option maxHeartbeats 800000 in
theorem iChange_bad2 (A : Option Addr) (n c : Nat) (l : List It) (x : It) (w : World) (hl : KI.Rd w A n l) (hn : n ≤ 140737488355328) (hm : mayI l = true) (h2 : (x.2.1 == 0) = true) :
    Calls Try.prog 14 #[.slice A n c, .agg (itA x)] w fun e w' => e = .returned (.tuple #[.slice none 0 0, .int .i64 2]) ∧ New w w' := by
  obtain rfl : l.length = n := hl.1
  have hA1 := imay_any A l.length c l
  rw [hm] at hA1
  have HA := Lib.hid hA1
  clear hA1 hm
  go_enter Try.func14, Try.ntmps14
  go_wp2_with fail
  have hnW : New w (w.alloc (Obj.cells (itA x) 28)) := (New.rfl' w).alloc' _
  generalize hW : (w.alloc (Obj.cells (itA x) 28)) = W at *
  have hWz0 : w.heap.size < W.heap.size := by rw [← hW]; simp only [World.size_alloc]; omega
  have hWa0 : rowAt W (w.heap.size) = itA x := by rw [← hW]; simp [go_sem]
  have hWo0 : rowOk W (w.heap.size) = true := by rw [← hW]; simp [go_sem]
  clear hW
  have hWA := fun w' (h : New W w') n hn => rowAt_below h n hn
  have hWO := fun w' (h : New W w') n hn => rowOk_below h n hn
  have hWS := fun w' (h : New W w') n (hn : n < W.heap.size) => eq_true (Nat.lt_of_lt_of_le hn h.size)
  have hl2 := hl.new hnW
  go_wp2_with (first
    | (go_at_call 21; refine (HA.out _ hl2 hn).mono ?_; rintro e w1 ⟨rfl, hb1⟩))
  go_ret2
  exact ⟨rfl, hnW.call hb1⟩
set_option maxHeartbeats 800000 in
theorem iChange_none (A : Option Addr) (n c : Nat) (l : List It) (x : It) (w : World) (hl : KI.Rd w A n l) (hn : n ≤ 140737488355328) (hm : mayI l = true) (h2 : (x.2.1 == 0) = false) (h3 : hasI l x.1 = false) :
    Calls Try.prog 14 #[.slice A n c, .agg (itA x)] w fun e w' => e = .returned (.tuple #[.slice none 0 0, .int .i64 7]) ∧ New w w' := by
  obtain rfl : l.length = n := hl.1
  have hA1 := imay_any A l.length c l
  rw [hm] at hA1
  have HA := Lib.hid hA1
  have hris := Lib.hid (risI_of l hm)
  have hB1 := ifind_any A l.length c l x.1
  rw [h3] at hB1
  have HB := Lib.hid hB1
  clear hB1 h3
  clear hA1 hm
  go_enter Try.func14, Try.ntmps14
  go_wp2_with fail
  have hnW : New w (w.alloc (Obj.cells (itA x) 28)) := (New.rfl' w).alloc' _
  generalize hW : (w.alloc (Obj.cells (itA x) 28)) = W at *
  have hWz0 : w.heap.size < W.heap.size := by rw [← hW]; simp only [World.size_alloc]; omega
  have hWa0 : rowAt W (w.heap.size) = itA x := by rw [← hW]; simp [go_sem]
  have hWo0 : rowOk W (w.heap.size) = true := by rw [← hW]; simp [go_sem]
  clear hW
  have hWA := fun w' (h : New W w') n hn => rowAt_below h n hn
  have hWO := fun w' (h : New W w') n hn => rowOk_below h n hn
  have hWS := fun w' (h : New W w') n (hn : n < W.heap.size) => eq_true (Nat.lt_of_lt_of_le hn h.size)
  have hl2 := hl.new hnW
  go_wp2_with (first
    | (go_at_call 21; refine (HA.out _ hl2 hn).mono ?_; rintro e w1 ⟨rfl, hb1⟩)
    | (go_at_call 47; refine (HB.out _ (hl2.new hb1) hn hris.out).mono ?_; rintro e w2 ⟨rfl, hb⟩; have hb2 := New.call hb1 hb; clear hb))
  go_ret2
  exact ⟨rfl, hnW.call hb2⟩
set_option maxHeartbeats 800000 in
theorem iDrop_ok (A : Option Addr) (n c : Nat) (l : List It) (id : Int) (w : World) (hl : KI.Rd w A n l) (hc : n ≤ c) (hm : mayI l = true) (h3 : hasI l id = true) :
    Calls Try.prog 16 #[.slice A n c, .int .u32 id] w fun e w' => ∃ v, e = .returned (.tuple #[v, .int .i64 0]) ∧ KI.Own w' w.heap.size v (drpI l id) ∧ New w w' := by
  obtain rfl : l.length = n := hl.1
  have h40 := mayI_len l hm
  obtain ⟨hlt, _, _⟩ := pos_has l id (risI_of l hm) h3
  have hA1 := imay_any A l.length c l
  rw [hm] at hA1
  have HA := Lib.hid hA1
  have hris := Lib.hid (risI_of l hm)
  have hB1 := ifind_any A l.length c l id
  rw [h3] at hB1
  have HB := Lib.hid hB1
  have hins := Lib.hid (drpI_eq l id)
  clear hA1 hB1 hm h3
  generalize hpp : posI l id = p at *
  have Hpp := Lib.hid hpp
  clear hpp
  go_enter Try.func16, Try.ntmps16
  have hwA := fun w' (h : New w w') n hn => rowAt_below h n hn
  have hwO := fun w' (h : New w w') n hn => rowOk_below h n hn
  have hwS := fun w' (h : New w w') n (hn : n < w.heap.size) => eq_true (Nat.lt_of_lt_of_le hn h.size)
  have hl2 := hl
  go_wp2_with (first
    | (go_at_call 21; refine (HA.out _ hl2 (by omega)).mono ?_; rintro e w1 ⟨rfl, hb1⟩)
    | (go_at_call 47; refine (HB.out _ (hl2.new hb1) (by omega) hris.out).mono ?_; rintro e w2 ⟨rfl, hb⟩; have hb2 := New.call hb1 hb; clear hb))
  have i1 : (p : Int) ≤ (l.length : Int) := by omega
  have i2 : (p : Int) ≤ (c : Int) := by omega
  have i3 : (l.length : Int) ≤ (c : Int) := by omega
  have i4 : (p : Int) + 1 ≤ (l.length : Int) := by omega
  have i5 : (p : Int) + 1 ≤ (c : Int) := by omega
  have iw : IntKind.i64.wrap ((p : Int) + 1) = (p : Int) + 1 := by rw [IntKind.wrap_i64]; omega
  have i0 : (0 : Int) ≤ (p : Int) + 1 := by omega
  by_cases hcp : c = p + 1
  · subst hcp
    have i6 : (l.length : Int) ≤ (p : Int) + 1 := by omega
    have i7 : (p : Int) ≤ (p : Int) + 1 := by omega
    have i8 : (0 : Int) ≤ (p : Int) + 1 := by omega
    clear i2 i3 i5
    have hB : KI.Rd w2 A (l.length - (p + 1)) (l.drop (p + 1)) := by have := (hl2.new hb2).cut (k := p + 1) (by omega) hc; rwa [if_pos rfl] at this
    have hC := fun w' h0 h1 h2 => cut2_any (p := p) (res := drpI l id) (c := p + 1) (e := 0) (h := w2.heap.size) (hl2.new hb2) (by omega) hB (by omega) (by omega) (by rw [hins.out]) w' h0 h1 h2
    go_region_held3 (fun w' => New w w') (first | exact New.drew' hb2 | exact New.call (by assumption) hb | exact New.alloc' (by assumption) _)
      (first | (go_at_call 48; refine (hC _ (New.drew' ((New.rfl' w2).alloc' _)) (by go_simp) (by go_simp)).mono ?_; rintro e w4 ⟨A4, c4, rfl, hv4, hb⟩))
    go_wp2
    go_ret2
    exact ⟨_, rfl, hv4.lower (by have := hb2.size; simp only [World.size_alloc, World.size_drew]; omega), (by assumption)⟩
  · have hB : KI.Rd w2 (Option.map (fun x => x.add ((p + 1) * 11)) A) (l.length - (p + 1)) (l.drop (p + 1)) := by have := (hl2.new hb2).cut (k := p + 1) (by omega) hc; rwa [if_neg hcp] at this
    have hC := fun w' h0 h1 h2 => cut2_any (p := p) (res := drpI l id) (c := c) (e := c - (p + 1)) (h := w2.heap.size) (hl2.new hb2) (by omega) hB (by omega) (by omega) (by rw [hins.out]) w' h0 h1 h2
    go_region_held3 (fun w' => New w w') (first | exact New.drew' hb2 | exact New.call (by assumption) hb | exact New.alloc' (by assumption) _)
      (first | (go_at_call 48; refine (hC _ (New.drew' ((New.rfl' w2).alloc' _)) (by go_simp) (by go_simp)).mono ?_; rintro e w4 ⟨A4, c4, rfl, hv4, hb⟩))
    go_wp2
    go_ret2
    exact ⟨_, rfl, hv4.lower (by have := hb2.size; simp only [World.size_alloc, World.size_drew]; omega), (by assumption)⟩
set_option maxHeartbeats 800000 in
theorem iDrop_bad (A : Option Addr) (n c : Nat) (l : List It) (id : Int) (w : World) (hl : KI.Rd w A n l) (hn : n ≤ 140737488355328) (hm : mayI l = false) :
    Calls Try.prog 16 #[.slice A n c, .int .u32 id] w fun e w' => e = .returned (.tuple #[.slice none 0 0, .int .i64 2]) ∧ New w w' := by
  obtain rfl : l.length = n := hl.1
  have hA1 := imay_any A l.length c l
  rw [hm] at hA1
  have HA := Lib.hid hA1
  clear hA1 hm
  go_enter Try.func16, Try.ntmps16
  have hwA := fun w' (h : New w w') n hn => rowAt_below h n hn
  have hwO := fun w' (h : New w w') n hn => rowOk_below h n hn
  have hwS := fun w' (h : New w w') n (hn : n < w.heap.size) => eq_true (Nat.lt_of_lt_of_le hn h.size)
  have hl2 := hl
  go_wp2_with (first
    | (go_at_call 21; refine (HA.out _ hl2 hn).mono ?_; rintro e w1 ⟨rfl, hb1⟩))
  go_ret2
  exact ⟨rfl, hb1⟩
set_option maxHeartbeats 800000 in
theorem iDrop_none (A : Option Addr) (n c : Nat) (l : List It) (id : Int) (w : World) (hl : KI.Rd w A n l) (hn : n ≤ 140737488355328) (hm : mayI l = true) (h3 : hasI l id = false) :
    Calls Try.prog 16 #[.slice A n c, .int .u32 id] w fun e w' => e = .returned (.tuple #[.slice none 0 0, .int .i64 7]) ∧ New w w' := by
  obtain rfl : l.length = n := hl.1
  have hA1 := imay_any A l.length c l
  rw [hm] at hA1
  have HA := Lib.hid hA1
  have hris := Lib.hid (risI_of l hm)
  have hB1 := ifind_any A l.length c l id
  rw [h3] at hB1
  have HB := Lib.hid hB1
  clear hB1 h3
  clear hA1 hm
  go_enter Try.func16, Try.ntmps16
  have hwA := fun w' (h : New w w') n hn => rowAt_below h n hn
  have hwO := fun w' (h : New w w') n hn => rowOk_below h n hn
  have hwS := fun w' (h : New w w') n (hn : n < w.heap.size) => eq_true (Nat.lt_of_lt_of_le hn h.size)
  have hl2 := hl
  go_wp2_with (first
    | (go_at_call 21; refine (HA.out _ hl2 hn).mono ?_; rintro e w1 ⟨rfl, hb1⟩)
    | (go_at_call 47; refine (HB.out _ (hl2.new hb1) hn hris.out).mono ?_; rintro e w2 ⟨rfl, hb⟩; have hb2 := New.call hb1 hb; clear hb))
  go_ret2
  exact ⟨rfl, hb2⟩

/-! ### whole -/
theorem iAdd_any (A : Option Addr) (n c : Nat) (l : List It) (x : It) (w : World) (hl : KI.Rd w A n l) (hc : n ≤ c) (hn : n ≤ 140737488355328) :
    Calls Try.prog 12 #[.slice A n c, .agg (itA x)] w fun e w' => ∃ v, e = .returned (.tuple #[v, .int .i64 (addI l x).2]) ∧ KI.Own w' w.heap.size v (addI l x).1 ∧ New w w' := by
  unfold addI
  cases hm : mayI l
  · refine (iAdd_bad1 A n c l x w hl hn hm).mono ?_; rintro e w' ⟨rfl, hb⟩; exact ⟨_, rfl, Kind.Own.nil, hb⟩
  cases h1 : (x.1 == 0)
  case true => refine (iAdd_bad2 A n c l x w hl hn hm h1).mono ?_; rintro e w' ⟨rfl, hb⟩; exact ⟨_, rfl, Kind.Own.nil, hb⟩
  cases h2 : (x.2.1 == 0)
  case true => refine (iAdd_bad3 A n c l x w hl hn hm h1 h2).mono ?_; rintro e w' ⟨rfl, hb⟩; exact ⟨_, rfl, Kind.Own.nil, hb⟩
  cases h3 : hasI l x.1
  case true => refine (iAdd_twice A n c l x w hl hn hm h1 h2 h3).mono ?_; rintro e w' ⟨rfl, hb⟩; exact ⟨_, rfl, Kind.Own.nil, hb⟩
  by_cases h40 : l.length = 40
  · refine (iAdd_limit A n c l x w hl hn hm h1 h2 h3 (by simp [h40])).mono ?_; rintro e w' ⟨rfl, hb⟩; simp only [h40]; exact ⟨_, rfl, Kind.Own.nil, hb⟩
  · refine (iAdd_ok A n c l x w hl hc hm h1 h2 h3 (by have := mayI_len l hm; omega)).mono ?_; rintro e w' ⟨v, rfl, hv, hb⟩; simp only [h40]; exact ⟨_, rfl, hv, hb⟩
theorem iChange_any (A : Option Addr) (n c : Nat) (l : List It) (x : It) (w : World) (hl : KI.Rd w A n l) (hc : n ≤ c) (hn : n ≤ 140737488355328) :
    Calls Try.prog 14 #[.slice A n c, .agg (itA x)] w fun e w' => ∃ v, e = .returned (.tuple #[v, .int .i64 (changeI l x).2]) ∧ KI.Own w' w.heap.size v (changeI l x).1 ∧ New w w' := by
  unfold changeI
  cases hm : mayI l
  · refine (iChange_bad1 A n c l x w hl hn hm).mono ?_; rintro e w' ⟨rfl, hb⟩; exact ⟨_, rfl, Kind.Own.nil, hb⟩
  cases h2 : (x.2.1 == 0)
  case true => refine (iChange_bad2 A n c l x w hl hn hm h2).mono ?_; rintro e w' ⟨rfl, hb⟩; exact ⟨_, rfl, Kind.Own.nil, hb⟩
  cases h3 : hasI l x.1
  · refine (iChange_none A n c l x w hl hn hm h2 h3).mono ?_; rintro e w' ⟨rfl, hb⟩; exact ⟨_, rfl, Kind.Own.nil, hb⟩
  · refine (iChange_ok A n c l x w hl hc hm h2 h3).mono ?_; rintro e w' ⟨v, rfl, hv, hb⟩; exact ⟨_, rfl, hv, hb⟩
theorem iDrop_any (A : Option Addr) (n c : Nat) (l : List It) (id : Int) (w : World) (hl : KI.Rd w A n l) (hc : n ≤ c) (hn : n ≤ 140737488355328) :
    Calls Try.prog 16 #[.slice A n c, .int .u32 id] w fun e w' => ∃ v, e = .returned (.tuple #[v, .int .i64 (dropI l id).2]) ∧ KI.Own w' w.heap.size v (dropI l id).1 ∧ New w w' := by
  unfold dropI
  cases hm : mayI l
  · refine (iDrop_bad A n c l id w hl hn hm).mono ?_; rintro e w' ⟨rfl, hb⟩; exact ⟨_, rfl, Kind.Own.nil, hb⟩
  cases h3 : hasI l id
  · refine (iDrop_none A n c l id w hl hn hm h3).mono ?_; rintro e w' ⟨rfl, hb⟩; exact ⟨_, rfl, Kind.Own.nil, hb⟩
  · refine (iDrop_ok A n c l id w hl hc hm h3).mono ?_; rintro e w' ⟨v, rfl, hv, hb⟩; exact ⟨_, rfl, hv, hb⟩
end Go.Proofs.Ytkgebhmlogddcaa
