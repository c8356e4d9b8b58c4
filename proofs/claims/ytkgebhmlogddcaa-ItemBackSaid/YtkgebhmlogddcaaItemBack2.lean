/- The law ItemBack, walked. -/
import Derived.Test.YtkgebhmlogddcaaItemBack
namespace Go.Proofs.Ytkgebhmlogddcaa
open Go.RowKit
set_option linter.unusedSimpArgs false
attribute [local go_sem] rowAt_alloc_at rowAt_alloc_past rowOk_alloc_at rowOk_alloc_past rowAt_drew rowOk_drew setRow_alloc_at setRow_alloc_past rowAt_setRow rowAt_setRow_far rowOk_setRow cell_rowOk frozen_rowOk setCell_rowOk setRow_setRow con_fold con_get con_size con_set set_all none8_cells equalIn_con storeCells_con
attribute [local go_sem] it_size it_0 it_1 it_2 it_3 it_4 it_5 it_6 it_7 it_8 it_9 it_10 it_set0 it_set1 it_set2 it_fold it_zero it_eta it_fill run_storeCells_it
attribute [local go_sem high] equalIn_it
attribute [local go_sem] eqg_it

theorem add_yes (A : Option Addr) (c : Nat) (l : List It) (x : It) (w : World) (hl : KI.Rd w A l.length l) (hc : l.length ≤ c) (hn : l.length ≤ 100) (hP : 0 ≤ x.1) (hok : (addI l x).2 = 0) :
    Calls Try.prog 12 #[.slice A l.length c, .agg (itA x)] w fun e w' => ∃ A' c', e = .returned (.tuple #[.slice A' (insI l x).length c', .int .i64 0]) ∧ (insI l x).length ≤ c' ∧ KI.Rd w' A' (insI l x).length (insI l x) ∧ New w w' := by
  obtain ⟨h1, _⟩ := add_back l x hP hok
  refine (iAdd_any _ _ _ l x _ hl hc (by omega)).mono ?_
  rintro e w1 ⟨v, rfl, hv, hb⟩
  rw [h1] at hv
  rw [hok]
  obtain ⟨A', c', rfl, hc', hr⟩ := hv.rd
  exact ⟨A', c', rfl, hc', hr, hb⟩
theorem add_no (A : Option Addr) (c : Nat) (l : List It) (x : It) (k : Int) (w : World) (hl : KI.Rd w A l.length l) (hc : l.length ≤ c) (hn : l.length ≤ 100) (hok : (addI l x).2 = k) :
    Calls Try.prog 12 #[.slice A l.length c, .agg (itA x)] w fun e w' => ∃ A' n' c', e = .returned (.tuple #[.slice A' n' c', .int .i64 k]) ∧ New w w' := by
  refine (iAdd_any _ _ _ l x _ hl hc (by omega)).mono ?_
  rintro e w1 ⟨v, rfl, hv, hb⟩
  rw [hok]
  obtain ⟨A', c', rfl, hc', hr⟩ := hv.rd
  exact ⟨A', _, c', rfl, hb⟩
theorem chg_yes (A : Option Addr) (c : Nat) (l : List It) (x : It) (w : World) (hl : KI.Rd w A l.length l) (hc : l.length ≤ c) (hn : l.length ≤ 100) (hok : (changeI l x).2 = 0) :
    Calls Try.prog 14 #[.slice A l.length c, .agg (itA x)] w fun e w' => ∃ A' c', e = .returned (.tuple #[.slice A' l.length c', .int .i64 0]) ∧ KI.Rd w' A' l.length (chgI l x) ∧ New w w' := by
  obtain ⟨h1, _, h3, _⟩ := change_back l x hok
  refine (iChange_any _ _ _ l x _ hl hc (by omega)).mono ?_
  rintro e w1 ⟨v, rfl, hv, hb⟩
  rw [h1] at hv
  rw [hok]
  obtain ⟨A', c', rfl, hc', hr⟩ := hv.rd
  rw [h3] at hr ⊢
  exact ⟨A', c', rfl, hr, hb⟩
theorem chg_no (A : Option Addr) (c : Nat) (l : List It) (x : It) (k : Int) (w : World) (hl : KI.Rd w A l.length l) (hc : l.length ≤ c) (hn : l.length ≤ 100) (hok : (changeI l x).2 = k) :
    Calls Try.prog 14 #[.slice A l.length c, .agg (itA x)] w fun e w' => ∃ A' n' c', e = .returned (.tuple #[.slice A' n' c', .int .i64 k]) ∧ New w w' := by
  refine (iChange_any _ _ _ l x _ hl hc (by omega)).mono ?_
  rintro e w1 ⟨v, rfl, hv, hb⟩
  rw [hok]
  obtain ⟨A', c', rfl, hc', hr⟩ := hv.rd
  exact ⟨A', _, c', rfl, hb⟩
theorem drop_yes (A : Option Addr) (n c : Nat) (m l : List It) (id : Int) (w : World) (hm : KI.Rd w A n m) (hc : n ≤ c) (hn : n ≤ 1000) (hok : dropI m id = (l, 0)) :
    Calls Try.prog 16 #[.slice A n c, .int .u32 id] w fun e w' => ∃ A' c', e = .returned (.tuple #[.slice A' l.length c', .int .i64 0]) ∧ KI.Rd w' A' l.length l ∧ New w w' := by
  refine (iDrop_any _ _ _ m id _ hm hc (by omega)).mono ?_
  rintro e w1 ⟨v, rfl, hv, hb⟩
  rw [hok] at hv ⊢
  obtain ⟨A', c', rfl, hc', hr⟩ := hv.rd
  exact ⟨A', c', rfl, hr, hb⟩
theorem find_yes (A : Option Addr) (n c : Nat) (m : List It) (x : It) (id : Int) (w : World) (hm : KI.Rd w A n m) (hn : n ≤ 1000) (hok : findI m id = some x) :
    Calls Try.prog 22 #[.slice A n c, .int .u32 id] w fun e w' => e = .returned (.tuple #[.agg (itA x), .bool true]) ∧ New w w' := by
  refine (iFind_any _ _ _ m id _ hm (by omega)).mono ?_
  rintro e w1 ⟨rfl, hb⟩
  rw [hok]
  exact ⟨rfl, hb⟩

set_option maxHeartbeats 3200000 in
set_option maxRecDepth 100000 in
theorem back_yy (A : Option Addr) (c : Nat) (l : List It) (x y : It) (w : World) (hl : KI.Rd w A l.length l) (hc : l.length ≤ c) (hn : l.length ≤ 100) (hP : 0 ≤ x.1) (hm : mayI l = true) (hoka : (addI l x).2 = 0) (hokc : (changeI l y).2 = 0) :
    Calls Try.prog 4 #[.slice A l.length c, .agg (itA x), .agg (itA y)] w fun e w' => e = .returned (.bool true) ∧ New w w' := by
  have hL := Lib.hid hn
  have hd : decide (100 < l.length) = false := by simpa using hn
  have hM1 := imay_any A l.length c l
  rw [hm] at hM1
  have HM := Lib.hid hM1
  clear hM1
  obtain ⟨_, ga1, ga2, ga3⟩ := add_back l x hP hoka
  have hM2 := fun A' n' c' => imay_any A' n' c' (insI l x)
  rw [ga1] at hM2
  have HM2 := Lib.hid hM2
  have HD := Lib.hid ga2
  have HF := Lib.hid ga3
  have hI := Lib.hid (show (insI l x).length ≤ l.length + 1 by simp [insI]; omega)
  clear hM2 ga1 ga2 ga3
  obtain ⟨_, gc1, gc2, gc3⟩ := change_back l y hokc
  have hM3 := fun A' n' c' => imay_any A' n' c' (chgI l y)
  rw [gc1] at hM3
  have HM3 := Lib.hid hM3
  have HF3 := Lib.hid gc3
  clear hM3 gc1 gc2 gc3
  have HA := Lib.hid hoka
  have HC := Lib.hid hokc
  clear hoka hokc hm
  go_enter Try.func4, Try.ntmps4
  go_wp2_with fail
  have hnW : New w ((w.alloc (Obj.cells (itA x) 28)).alloc (Obj.cells (itA y) 28)) := ((New.rfl' w).alloc' _).alloc' _
  generalize hW : ((w.alloc (Obj.cells (itA x) 28)).alloc (Obj.cells (itA y) 28)) = W at *
  have hWz0 : w.heap.size < W.heap.size := by rw [← hW]; simp only [World.size_alloc]; omega
  have hWa0 : rowAt W (w.heap.size) = itA x := by rw [← hW]; simp [go_sem]
  have hWo0 : rowOk W (w.heap.size) = true := by rw [← hW]; simp [go_sem]
  have hWz1 : w.heap.size + 1 < W.heap.size := by rw [← hW]; simp only [World.size_alloc]; omega
  have hWa1 : rowAt W (w.heap.size + 1) = itA y := by rw [← hW]; simp [go_sem]
  have hWo1 : rowOk W (w.heap.size + 1) = true := by rw [← hW]; simp [go_sem]
  clear hW
  have hWA := fun w' (h : New W w') n hn => rowAt_below h n hn
  have hWO := fun w' (h : New W w') n hn => rowOk_below h n hn
  have hWS := fun w' (h : New W w') n (hn : n < W.heap.size) => eq_true (Nat.lt_of_lt_of_le hn h.size)
  have hl2 := hl.new hnW
  have hr := New.rfl' W
  go_wp2_with (first
    | (go_at_call 10; refine (great_any _ _ _ _).mono ?_; rintro e w1 ⟨rfl, rfl⟩)
    | (go_at_call_of 21 A; refine (HM.out _ (hl2.new hr) (by have := hL.out; omega)).mono ?_; rintro e w1 ⟨rfl, hb⟩; have hr := hr.call hb; clear hb)
    | (go_at_call 12; refine (add_yes _ _ l x _ (hl2.new hr) hc hL.out hP HA.out).mono ?_; rintro e w1 ⟨A1, c1, rfl, hc1, hx1, hb⟩; have hr := hr.call hb; clear hb)
    | (go_at_call_of 16 A1; refine (drop_yes _ _ _ (insI l x) l _ _ hx1 hc1 (by have := hI.out; have := hL.out; omega) HD.out).mono ?_; rintro e w1 ⟨A2, c2, rfl, hx2, hb⟩; have hr := hr.call hb; have hx1 := hx1.new hb; clear hb)
    | (go_at_call_of 22 A1; refine (find_yes _ _ _ (insI l x) x _ _ hx1 (by have := hI.out; have := hL.out; omega) HF.out).mono ?_; rintro e w2 ⟨rfl, hb⟩; have hr := hr.call hb; have hx1 := hx1.new hb; have hx2 := hx2.new hb; clear hb))
  have hnV : New w2 (w2.alloc (Obj.cells (itA x) 28)) := (New.rfl' w2).alloc' _
  generalize hV : (w2.alloc (Obj.cells (itA x) 28)) = V at *
  have hVz0 : w2.heap.size < V.heap.size := by rw [← hV]; simp only [World.size_alloc]; omega
  have hVa0 : rowAt V (w2.heap.size) = itA x := by rw [← hV]; simp [go_sem]
  have hVo0 : rowOk V (w2.heap.size) = true := by rw [← hV]; simp [go_sem]
  clear hV
  have hVA := fun w' (h : New V w') n hn => rowAt_below h n hn
  have hVO := fun w' (h : New V w') n hn => rowOk_below h n hn
  have hVS := fun w' (h : New V w') n (hn : n < V.heap.size) => eq_true (Nat.lt_of_lt_of_le hn h.size)
  have hx1 := hx1.new hnV
  have hx2 := hx2.new hnV
  have hr := hr.call hnV
  have hs := New.rfl' V
  clear hnV
  go_wp2_with (first
    | (go_at_call_of 21 A1; refine (HM2.out _ _ _ _ hx1 (by have := hI.out; have := hL.out; omega)).mono ?_; rintro e w3 ⟨rfl, hb⟩; have hr := hr.call hb; have hs := hs.call hb; have hx2 := hx2.new hb; clear hb)
    | (go_at_call_of 18 A2; refine (refsame_any _ _ _ _ _ _ _ _ _ hx2 (hl2.new hr) (by have := hL.out; omega) (by have := hL.out; omega)).mono ?_; rintro e w3 ⟨rfl, hb⟩; have hr := hr.call hb; have hs := hs.call hb; clear hb)
    | (go_at_call 14; refine (chg_yes _ _ l y _ (hl2.new hr) hc hL.out HC.out).mono ?_; rintro e w1 ⟨A3, c3, rfl, hx3, hb⟩; have hr := hr.call hb; have hs := hs.call hb; clear hb)
    | (go_at_call_of 22 A3; refine (find_yes _ _ _ (chgI l y) y _ _ hx3 (by have := hL.out; omega) HF3.out).mono ?_; rintro e w5 ⟨rfl, hb⟩; have hr := hr.call hb; have hs := hs.call hb; have hx3 := hx3.new hb; clear hb))
  have hnU : New w5 (w5.alloc (Obj.cells (itA y) 28)) := (New.rfl' w5).alloc' _
  generalize hU : (w5.alloc (Obj.cells (itA y) 28)) = U at *
  have hUz0 : w5.heap.size < U.heap.size := by rw [← hU]; simp only [World.size_alloc]; omega
  have hUa0 : rowAt U (w5.heap.size) = itA y := by rw [← hU]; simp [go_sem]
  have hUo0 : rowOk U (w5.heap.size) = true := by rw [← hU]; simp [go_sem]
  clear hU
  have hUA := fun w' (h : New U w') n hn => rowAt_below h n hn
  have hUO := fun w' (h : New U w') n hn => rowOk_below h n hn
  have hUS := fun w' (h : New U w') n (hn : n < U.heap.size) => eq_true (Nat.lt_of_lt_of_le hn h.size)
  have hx3 := hx3.new hnU
  have hr := hr.call hnU
  have hs := hs.call hnU
  have ht := New.rfl' U
  clear hnU
  go_wp2_with (first
    | (go_at_call_of 21 A3; refine (HM3.out _ _ _ _ hx3 (by have := hL.out; omega)).mono ?_; rintro e w6 ⟨rfl, hb⟩; have hr := hr.call hb; have ht := ht.call hb; clear hb)
    | (go_at_call 11; refine (lives_i _).mono ?_; rintro e w9 ⟨rfl, hb⟩; have hr := hr.call hb; clear hb))
  go_ret
  exact ⟨rfl, hnW.call hr⟩
set_option maxHeartbeats 3200000 in
set_option maxRecDepth 100000 in
theorem back_yn (A : Option Addr) (c : Nat) (l : List It) (x y : It) (w : World) (hl : KI.Rd w A l.length l) (hc : l.length ≤ c) (hn : l.length ≤ 100) (hP : 0 ≤ x.1) (hm : mayI l = true) (hoka : (addI l x).2 = 0) (kc : Int) (hokc : (changeI l y).2 = kc) (hkc : (kc == 0) = false) :
    Calls Try.prog 4 #[.slice A l.length c, .agg (itA x), .agg (itA y)] w fun e w' => e = .returned (.bool true) ∧ New w w' := by
  have hL := Lib.hid hn
  have hd : decide (100 < l.length) = false := by simpa using hn
  have hM1 := imay_any A l.length c l
  rw [hm] at hM1
  have HM := Lib.hid hM1
  clear hM1
  obtain ⟨_, ga1, ga2, ga3⟩ := add_back l x hP hoka
  have hM2 := fun A' n' c' => imay_any A' n' c' (insI l x)
  rw [ga1] at hM2
  have HM2 := Lib.hid hM2
  have HD := Lib.hid ga2
  have HF := Lib.hid ga3
  have hI := Lib.hid (show (insI l x).length ≤ l.length + 1 by simp [insI]; omega)
  clear hM2 ga1 ga2 ga3
  have HA := Lib.hid hoka
  have HC := Lib.hid hokc
  clear hoka hokc hm
  go_enter Try.func4, Try.ntmps4
  go_wp2_with fail
  have hnW : New w ((w.alloc (Obj.cells (itA x) 28)).alloc (Obj.cells (itA y) 28)) := ((New.rfl' w).alloc' _).alloc' _
  generalize hW : ((w.alloc (Obj.cells (itA x) 28)).alloc (Obj.cells (itA y) 28)) = W at *
  have hWz0 : w.heap.size < W.heap.size := by rw [← hW]; simp only [World.size_alloc]; omega
  have hWa0 : rowAt W (w.heap.size) = itA x := by rw [← hW]; simp [go_sem]
  have hWo0 : rowOk W (w.heap.size) = true := by rw [← hW]; simp [go_sem]
  have hWz1 : w.heap.size + 1 < W.heap.size := by rw [← hW]; simp only [World.size_alloc]; omega
  have hWa1 : rowAt W (w.heap.size + 1) = itA y := by rw [← hW]; simp [go_sem]
  have hWo1 : rowOk W (w.heap.size + 1) = true := by rw [← hW]; simp [go_sem]
  clear hW
  have hWA := fun w' (h : New W w') n hn => rowAt_below h n hn
  have hWO := fun w' (h : New W w') n hn => rowOk_below h n hn
  have hWS := fun w' (h : New W w') n (hn : n < W.heap.size) => eq_true (Nat.lt_of_lt_of_le hn h.size)
  have hl2 := hl.new hnW
  have hr := New.rfl' W
  go_wp2_with (first
    | (go_at_call 10; refine (great_any _ _ _ _).mono ?_; rintro e w1 ⟨rfl, rfl⟩)
    | (go_at_call_of 21 A; refine (HM.out _ (hl2.new hr) (by have := hL.out; omega)).mono ?_; rintro e w1 ⟨rfl, hb⟩; have hr := hr.call hb; clear hb)
    | (go_at_call 12; refine (add_yes _ _ l x _ (hl2.new hr) hc hL.out hP HA.out).mono ?_; rintro e w1 ⟨A1, c1, rfl, hc1, hx1, hb⟩; have hr := hr.call hb; clear hb)
    | (go_at_call_of 16 A1; refine (drop_yes _ _ _ (insI l x) l _ _ hx1 hc1 (by have := hI.out; have := hL.out; omega) HD.out).mono ?_; rintro e w1 ⟨A2, c2, rfl, hx2, hb⟩; have hr := hr.call hb; have hx1 := hx1.new hb; clear hb)
    | (go_at_call_of 22 A1; refine (find_yes _ _ _ (insI l x) x _ _ hx1 (by have := hI.out; have := hL.out; omega) HF.out).mono ?_; rintro e w2 ⟨rfl, hb⟩; have hr := hr.call hb; have hx1 := hx1.new hb; have hx2 := hx2.new hb; clear hb))
  have hnV : New w2 (w2.alloc (Obj.cells (itA x) 28)) := (New.rfl' w2).alloc' _
  generalize hV : (w2.alloc (Obj.cells (itA x) 28)) = V at *
  have hVz0 : w2.heap.size < V.heap.size := by rw [← hV]; simp only [World.size_alloc]; omega
  have hVa0 : rowAt V (w2.heap.size) = itA x := by rw [← hV]; simp [go_sem]
  have hVo0 : rowOk V (w2.heap.size) = true := by rw [← hV]; simp [go_sem]
  clear hV
  have hVA := fun w' (h : New V w') n hn => rowAt_below h n hn
  have hVO := fun w' (h : New V w') n hn => rowOk_below h n hn
  have hVS := fun w' (h : New V w') n (hn : n < V.heap.size) => eq_true (Nat.lt_of_lt_of_le hn h.size)
  have hx1 := hx1.new hnV
  have hx2 := hx2.new hnV
  have hr := hr.call hnV
  have hs := New.rfl' V
  clear hnV
  go_wp2_with (first
    | (go_at_call_of 21 A1; refine (HM2.out _ _ _ _ hx1 (by have := hI.out; have := hL.out; omega)).mono ?_; rintro e w3 ⟨rfl, hb⟩; have hr := hr.call hb; have hs := hs.call hb; have hx2 := hx2.new hb; clear hb)
    | (go_at_call_of 18 A2; refine (refsame_any _ _ _ _ _ _ _ _ _ hx2 (hl2.new hr) (by have := hL.out; omega) (by have := hL.out; omega)).mono ?_; rintro e w3 ⟨rfl, hb⟩; have hr := hr.call hb; have hs := hs.call hb; clear hb)
    | (go_at_call 14; refine (chg_no _ _ l y kc _ (hl2.new hr) hc hL.out HC.out).mono ?_; rintro e w1 ⟨A3, n3, c3, rfl, hb⟩; have hr := hr.call hb; have hs := hs.call hb; clear hb)
    | (go_at_call 11; refine (lives_i _).mono ?_; rintro e w9 ⟨rfl, hb⟩; have hr := hr.call hb; clear hb))
  go_ret
  exact ⟨rfl, hnW.call hr⟩
set_option maxHeartbeats 3200000 in
set_option maxRecDepth 100000 in
theorem back_ny (A : Option Addr) (c : Nat) (l : List It) (x y : It) (w : World) (hl : KI.Rd w A l.length l) (hc : l.length ≤ c) (hn : l.length ≤ 100) (hP : 0 ≤ x.1) (hm : mayI l = true) (ka : Int) (hoka : (addI l x).2 = ka) (hka : (ka == 0) = false) (hokc : (changeI l y).2 = 0) :
    Calls Try.prog 4 #[.slice A l.length c, .agg (itA x), .agg (itA y)] w fun e w' => e = .returned (.bool true) ∧ New w w' := by
  have hL := Lib.hid hn
  have hd : decide (100 < l.length) = false := by simpa using hn
  have hM1 := imay_any A l.length c l
  rw [hm] at hM1
  have HM := Lib.hid hM1
  clear hM1
  obtain ⟨_, gc1, gc2, gc3⟩ := change_back l y hokc
  have hM3 := fun A' n' c' => imay_any A' n' c' (chgI l y)
  rw [gc1] at hM3
  have HM3 := Lib.hid hM3
  have HF3 := Lib.hid gc3
  clear hM3 gc1 gc2 gc3
  have HA := Lib.hid hoka
  have HC := Lib.hid hokc
  clear hoka hokc hm
  go_enter Try.func4, Try.ntmps4
  go_wp2_with fail
  have hnW : New w ((w.alloc (Obj.cells (itA x) 28)).alloc (Obj.cells (itA y) 28)) := ((New.rfl' w).alloc' _).alloc' _
  generalize hW : ((w.alloc (Obj.cells (itA x) 28)).alloc (Obj.cells (itA y) 28)) = W at *
  have hWz0 : w.heap.size < W.heap.size := by rw [← hW]; simp only [World.size_alloc]; omega
  have hWa0 : rowAt W (w.heap.size) = itA x := by rw [← hW]; simp [go_sem]
  have hWo0 : rowOk W (w.heap.size) = true := by rw [← hW]; simp [go_sem]
  have hWz1 : w.heap.size + 1 < W.heap.size := by rw [← hW]; simp only [World.size_alloc]; omega
  have hWa1 : rowAt W (w.heap.size + 1) = itA y := by rw [← hW]; simp [go_sem]
  have hWo1 : rowOk W (w.heap.size + 1) = true := by rw [← hW]; simp [go_sem]
  clear hW
  have hWA := fun w' (h : New W w') n hn => rowAt_below h n hn
  have hWO := fun w' (h : New W w') n hn => rowOk_below h n hn
  have hWS := fun w' (h : New W w') n (hn : n < W.heap.size) => eq_true (Nat.lt_of_lt_of_le hn h.size)
  have hl2 := hl.new hnW
  have hr := New.rfl' W
  go_wp2_with (first
    | (go_at_call 10; refine (great_any _ _ _ _).mono ?_; rintro e w1 ⟨rfl, rfl⟩)
    | (go_at_call_of 21 A; refine (HM.out _ (hl2.new hr) (by have := hL.out; omega)).mono ?_; rintro e w1 ⟨rfl, hb⟩; have hr := hr.call hb; clear hb)
    | (go_at_call 12; refine (add_no _ _ l x ka _ (hl2.new hr) hc hL.out HA.out).mono ?_; rintro e w1 ⟨A1, n1, c1, rfl, hb⟩; have hr := hr.call hb; clear hb)
    | (go_at_call 14; refine (chg_yes _ _ l y _ (hl2.new hr) hc hL.out HC.out).mono ?_; rintro e w1 ⟨A3, c3, rfl, hx3, hb⟩; have hr := hr.call hb; clear hb)
    | (go_at_call_of 22 A3; refine (find_yes _ _ _ (chgI l y) y _ _ hx3 (by have := hL.out; omega) HF3.out).mono ?_; rintro e w5 ⟨rfl, hb⟩; have hr := hr.call hb; have hx3 := hx3.new hb; clear hb))
  have hnU : New w5 (w5.alloc (Obj.cells (itA y) 28)) := (New.rfl' w5).alloc' _
  generalize hU : (w5.alloc (Obj.cells (itA y) 28)) = U at *
  have hUz0 : w5.heap.size < U.heap.size := by rw [← hU]; simp only [World.size_alloc]; omega
  have hUa0 : rowAt U (w5.heap.size) = itA y := by rw [← hU]; simp [go_sem]
  have hUo0 : rowOk U (w5.heap.size) = true := by rw [← hU]; simp [go_sem]
  clear hU
  have hUA := fun w' (h : New U w') n hn => rowAt_below h n hn
  have hUO := fun w' (h : New U w') n hn => rowOk_below h n hn
  have hUS := fun w' (h : New U w') n (hn : n < U.heap.size) => eq_true (Nat.lt_of_lt_of_le hn h.size)
  have hx3 := hx3.new hnU
  have hr := hr.call hnU
  have ht := New.rfl' U
  clear hnU
  go_wp2_with (first
    | (go_at_call_of 21 A3; refine (HM3.out _ _ _ _ hx3 (by have := hL.out; omega)).mono ?_; rintro e w6 ⟨rfl, hb⟩; have hr := hr.call hb; have ht := ht.call hb; clear hb)
    | (go_at_call 11; refine (lives_i _).mono ?_; rintro e w9 ⟨rfl, hb⟩; have hr := hr.call hb; clear hb))
  go_ret
  exact ⟨rfl, hnW.call hr⟩
set_option maxHeartbeats 3200000 in
set_option maxRecDepth 100000 in
theorem back_nn (A : Option Addr) (c : Nat) (l : List It) (x y : It) (w : World) (hl : KI.Rd w A l.length l) (hc : l.length ≤ c) (hn : l.length ≤ 100) (hP : 0 ≤ x.1) (hm : mayI l = true) (ka : Int) (hoka : (addI l x).2 = ka) (hka : (ka == 0) = false) (kc : Int) (hokc : (changeI l y).2 = kc) (hkc : (kc == 0) = false) :
    Calls Try.prog 4 #[.slice A l.length c, .agg (itA x), .agg (itA y)] w fun e w' => e = .returned (.bool true) ∧ New w w' := by
  have hL := Lib.hid hn
  have hd : decide (100 < l.length) = false := by simpa using hn
  have hM1 := imay_any A l.length c l
  rw [hm] at hM1
  have HM := Lib.hid hM1
  clear hM1
  have HA := Lib.hid hoka
  have HC := Lib.hid hokc
  clear hoka hokc hm
  go_enter Try.func4, Try.ntmps4
  go_wp2_with fail
  have hnW : New w ((w.alloc (Obj.cells (itA x) 28)).alloc (Obj.cells (itA y) 28)) := ((New.rfl' w).alloc' _).alloc' _
  generalize hW : ((w.alloc (Obj.cells (itA x) 28)).alloc (Obj.cells (itA y) 28)) = W at *
  have hWz0 : w.heap.size < W.heap.size := by rw [← hW]; simp only [World.size_alloc]; omega
  have hWa0 : rowAt W (w.heap.size) = itA x := by rw [← hW]; simp [go_sem]
  have hWo0 : rowOk W (w.heap.size) = true := by rw [← hW]; simp [go_sem]
  have hWz1 : w.heap.size + 1 < W.heap.size := by rw [← hW]; simp only [World.size_alloc]; omega
  have hWa1 : rowAt W (w.heap.size + 1) = itA y := by rw [← hW]; simp [go_sem]
  have hWo1 : rowOk W (w.heap.size + 1) = true := by rw [← hW]; simp [go_sem]
  clear hW
  have hWA := fun w' (h : New W w') n hn => rowAt_below h n hn
  have hWO := fun w' (h : New W w') n hn => rowOk_below h n hn
  have hWS := fun w' (h : New W w') n (hn : n < W.heap.size) => eq_true (Nat.lt_of_lt_of_le hn h.size)
  have hl2 := hl.new hnW
  have hr := New.rfl' W
  go_wp2_with (first
    | (go_at_call 10; refine (great_any _ _ _ _).mono ?_; rintro e w1 ⟨rfl, rfl⟩)
    | (go_at_call_of 21 A; refine (HM.out _ (hl2.new hr) (by have := hL.out; omega)).mono ?_; rintro e w1 ⟨rfl, hb⟩; have hr := hr.call hb; clear hb)
    | (go_at_call 12; refine (add_no _ _ l x ka _ (hl2.new hr) hc hL.out HA.out).mono ?_; rintro e w1 ⟨A1, n1, c1, rfl, hb⟩; have hr := hr.call hb; clear hb)
    | (go_at_call 14; refine (chg_no _ _ l y kc _ (hl2.new hr) hc hL.out HC.out).mono ?_; rintro e w1 ⟨A3, n3, c3, rfl, hb⟩; have hr := hr.call hb; clear hb)
    | (go_at_call 11; refine (lives_i _).mono ?_; rintro e w9 ⟨rfl, hb⟩; have hr := hr.call hb; clear hb))
  go_ret
  exact ⟨rfl, hnW.call hr⟩

set_option maxHeartbeats 1600000 in
set_option maxRecDepth 100000 in
theorem back_i (A : Option Addr) (n c : Nat) (l : List It) (x y : It) (w : World) (hl : KI.Rd w A n l) (hc : n ≤ c) (hn : n ≤ 140737488355328) (hP : 0 ≤ x.1) :
    Calls Try.prog 4 #[.slice A n c, .agg (itA x), .agg (itA y)] w fun e w' => e = .returned (.bool true) ∧ New w w' := by
  obtain rfl : l.length = n := hl.1
  by_cases h1 : 100 < l.length
  · have hd : decide (100 < l.length) = true := by simpa using h1
    go_enter Try.func4, Try.ntmps4
    go_wp2_with fail
    have hnW : New w ((w.alloc (Obj.cells (itA x) 28)).alloc (Obj.cells (itA y) 28)) := ((New.rfl' w).alloc' _).alloc' _
    generalize hW : ((w.alloc (Obj.cells (itA x) 28)).alloc (Obj.cells (itA y) 28)) = W at *
    have hWz0 : w.heap.size < W.heap.size := by rw [← hW]; simp only [World.size_alloc]; omega
    have hWa0 : rowAt W (w.heap.size) = itA x := by rw [← hW]; simp [go_sem]
    have hWo0 : rowOk W (w.heap.size) = true := by rw [← hW]; simp [go_sem]
    have hWz1 : w.heap.size + 1 < W.heap.size := by rw [← hW]; simp only [World.size_alloc]; omega
    have hWa1 : rowAt W (w.heap.size + 1) = itA y := by rw [← hW]; simp [go_sem]
    have hWo1 : rowOk W (w.heap.size + 1) = true := by rw [← hW]; simp [go_sem]
    clear hW
    have hWA := fun w' (h : New W w') n hn => rowAt_below h n hn
    have hWO := fun w' (h : New W w') n hn => rowOk_below h n hn
    have hWS := fun w' (h : New W w') n (hn : n < W.heap.size) => eq_true (Nat.lt_of_lt_of_le hn h.size)
    go_wp2_with (first
      | (go_at_call 10; refine (great_any _ _ _ _).mono ?_; rintro e w1 ⟨rfl, rfl⟩)
      | (go_at_call 11; refine (lives_i _).mono ?_; rintro e w1 ⟨rfl, hb⟩))
    go_ret
    exact ⟨rfl, hnW.call hb⟩
  have hd : decide (100 < l.length) = false := by simpa using h1
  rcases Bool.eq_false_or_eq_true (mayI l) with hm | hm
  · by_cases ha : (addI l x).2 = 0 <;> by_cases hb : (changeI l y).2 = 0
    · exact back_yy A c l x y w hl hc (by omega) hP hm ha hb
    · exact back_yn A c l x y w hl hc (by omega) hP hm ha _ rfl (by simpa using hb)
    · exact back_ny A c l x y w hl hc (by omega) hP hm _ rfl (by simpa using ha) hb
    · exact back_nn A c l x y w hl hc (by omega) hP hm _ rfl (by simpa using ha) _ rfl (by simpa using hb)
  · have hM1 := imay_any A l.length c l
    rw [hm] at hM1
    have HM := Lib.hid hM1
    clear hM1 hm
    go_enter Try.func4, Try.ntmps4
    go_wp2_with fail
    have hnW : New w ((w.alloc (Obj.cells (itA x) 28)).alloc (Obj.cells (itA y) 28)) := ((New.rfl' w).alloc' _).alloc' _
    generalize hW : ((w.alloc (Obj.cells (itA x) 28)).alloc (Obj.cells (itA y) 28)) = W at *
    have hWz0 : w.heap.size < W.heap.size := by rw [← hW]; simp only [World.size_alloc]; omega
    have hWa0 : rowAt W (w.heap.size) = itA x := by rw [← hW]; simp [go_sem]
    have hWo0 : rowOk W (w.heap.size) = true := by rw [← hW]; simp [go_sem]
    have hWz1 : w.heap.size + 1 < W.heap.size := by rw [← hW]; simp only [World.size_alloc]; omega
    have hWa1 : rowAt W (w.heap.size + 1) = itA y := by rw [← hW]; simp [go_sem]
    have hWo1 : rowOk W (w.heap.size + 1) = true := by rw [← hW]; simp [go_sem]
    clear hW
    have hWA := fun w' (h : New W w') n hn => rowAt_below h n hn
    have hWO := fun w' (h : New W w') n hn => rowOk_below h n hn
    have hWS := fun w' (h : New W w') n (hn : n < W.heap.size) => eq_true (Nat.lt_of_lt_of_le hn h.size)
    have hl2 := hl.new hnW
    have hr := New.rfl' W
    go_wp2_with (first
      | (go_at_call 10; refine (great_any _ _ _ _).mono ?_; rintro e w1 ⟨rfl, rfl⟩)
      | (go_at_call_of 21 A; refine (HM.out _ (hl2.new hr) hn).mono ?_; rintro e w1 ⟨rfl, hb⟩; have hr := hr.call hb; clear hb)
      | (go_at_call 11; refine (lives_i _).mono ?_; rintro e w1 ⟨rfl, hb⟩; have hr := hr.call hb))
    go_ret
    exact ⟨rfl, hnW.call hr⟩
end Go.Proofs.Ytkgebhmlogddcaa
