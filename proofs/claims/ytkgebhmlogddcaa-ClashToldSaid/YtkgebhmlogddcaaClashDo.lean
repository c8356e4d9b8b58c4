/- Contracts: clash.Do. -/
import Derived.Test.YtkgebhmlogddcaaSet
import Derived.Test.YtkgebhmlogddcaaOp
import Derived.Test.YtkgebhmlogddcaaClash
import Derived.Test.YtkgebhmlogddcaaGhostM
import Derived.Test.YtkgebhmlogddcaaItem5
namespace Go.Proofs.Ytkgebhmlogddcaa
open Go.RowKit
set_option linter.unusedSimpArgs false
attribute [local go_sem] rowAt_alloc_at rowAt_alloc_past rowOk_alloc_at rowOk_alloc_past rowAt_drew rowOk_drew setRow_alloc_at setRow_alloc_past rowAt_setRow rowAt_setRow_far rowOk_setRow cell_rowOk frozen_rowOk setCell_rowOk setRow_setRow con_fold con_get con_size con_set set_all none8_cells equalIn_con storeCells_con
attribute [local go_sem] it_size it_0 it_1 it_2 it_3 it_4 it_5 it_6 it_7 it_8 it_9 it_10 it_set0 it_set1 it_set2 it_fold it_zero it_eta it_fill run_storeCells_it
attribute [local go_sem] sn_size sn_0 sn_1 sn_set0 sn_set1 sn_fold sn_eta sn_fill run_storeCells_sn eqg_sn eqg_it
attribute [local go_sem high] equalIn_sn equalIn_it
attribute [local go_sem] op_size op_0 op_1 op_2 op_3 op_4 op_5 op_6 op_7 op_8 op_9 op_10 op_11 op_con op_fold op_fold0 op_fill op_eta run_storeCells_op gn_size gn_8 gn_9 gn_10

/-- the item of an Id, if it is of a folder -/
def xC (l : List It) (op : Opr) : It := (findI l op.2.2.1).getD itZ
def thC (l : List It) (fo : Int) (op : Opr) : Bool := (findI l op.2.2.1).isSome && (xC l op).2.1 == fo
def whatC (l : List It) (fo : Int) (v : List Sn) (op : Opr) (g : Gn) : Int := clOf op.1 (findS v op.2.2.1).isSome ((findS v op.2.2.1).getD 0) (thC l fo op) (xC l op).2.2.1 (gnWi g)
def newC (l : List It) (op : Opr) (g : Gn) (sq : Int) : It := ((xC l op).1, (xC l op).2.1, sq, mg (xC l op).2.2.2 op.2.2.2.2 op.2.2.2.1 (gnLi g) (gnSu g))
/-- what a device does to an item, done -/
def doC (l : List It) (fo : Int) (v : List Sn) (op : Opr) (g : Gn) (sq : Int) : List It × List Sn × Int :=
  if mayI l = true ∧ risS 0 v = true then
    if whatC l fo v op g = 5 then (l, dropS v op.2.2.1, 5)
    else if (whatC l fo v op g = 2 ∨ whatC l fo v op g = 3) ∧ op.1 = 3 then ((dropI l op.2.2.1).1, dropS v op.2.2.1, whatC l fo v op g)
    else if (whatC l fo v op g = 2 ∨ whatC l fo v op g = 3) ∧ op.1 = 2 then ((changeI l (newC l op g sq)).1, if whatC l fo v op g = 2 then setS v op.2.2.1 sq else v, whatC l fo v op g)
    else (l, v, whatC l fo v op g)
  else (l, v, 0)
/-- an item's cells with another contact -/
def putC (cs : Array Value) (c : Con) : Array Value := (cs.toList.take 3 ++ (con c).toList).toArray
theorem putC_it (x : It) (c : Con) : putC (itA x) c = itA (x.1, x.2.1, x.2.2.1, c) := by simp [putC, itA, con]
theorem run_storeCells_itc (w : World) (n : Nat) (c : Con) (h : rowOk w n = true) (hs : (rowAt w n).size = 11) :
    (storeCells ⟨n, 3, none⟩ (con c).toList).run Try.prog w = .ok () (w.setRow n (putC (rowAt w n) c)) := by
  obtain ⟨t, ht⟩ := rowOk_get w h
  have := run_storeCells_at (P := Try.prog) n 3 t (con c).toList 0 (rowAt w n) w ht (by rw [Array.length_toList, con_size, hs]; decide) (fun v hv => (Array.all_eq_true_iff_forall_mem.1 (con_one c)) v (by simpa using hv))
  rw [Nat.add_zero] at this
  rw [this]
  congr 2
  unfold putC
  rw [List.drop_of_length_le (by rw [Array.length_toList, Array.length_toList, con_size, hs]; decide), List.append_nil]
attribute [local go_sem] it_extr putC_it run_storeCells_itc

/-! ### the ways -/

set_option maxHeartbeats 1600000 in
set_option maxRecDepth 100000 in
theorem do_bad1 (A : Option Addr) (n c : Nat) (l : List It) (fo : Int) (B : Option Addr) (m d : Nat) (v : List Sn) (op : Opr) (g : Gn) (sq : Int) (w : World) (hl : KI.Rd w A n l) (hv : KS.Rd w B m v) (hn : n ≤ 60) (hm : m ≤ 100) (hml : mayI l = false) :
    Calls Try.prog 32 #[.slice A n c, .int .u32 fo, .slice B m d, .agg (opA op), .agg (gnA g), .int .u64 sq] w fun e w' => ∃ a b, e = .returned (.tuple #[a, b, .int .u8 0]) ∧ KI.Own w' w.heap.size a l ∧ KS.Own w' w.heap.size b v ∧ New w w' := by
  obtain rfl : l.length = n := hl.1
  obtain rfl : v.length = m := hv.1
  have hA1 := imay_any A l.length c l
  rw [hml] at hA1
  have HA := Lib.hid hA1
  clear hA1 hml
  go_enter Try.func32, Try.ntmps32
  go_wp2_with fail
  have hnW : New w ((w.alloc (Obj.cells (opA op) 48)).alloc (Obj.cells (gnA g) 54)) := ((New.rfl' w).alloc' _).alloc' _
  generalize hW : ((w.alloc (Obj.cells (opA op) 48)).alloc (Obj.cells (gnA g) 54)) = W at *
  have hWz0 : w.heap.size < W.heap.size := by rw [← hW]; simp only [World.size_alloc]; omega
  have hWa0 : rowAt W (w.heap.size) = opA op := by rw [← hW]; simp [go_sem]
  have hWo0 : rowOk W (w.heap.size) = true := by rw [← hW]; simp [go_sem]
  have hWz1 : w.heap.size + 1 < W.heap.size := by rw [← hW]; simp only [World.size_alloc]; omega
  have hWa1 : rowAt W (w.heap.size + 1) = gnA g := by rw [← hW]; simp [go_sem]
  have hWo1 : rowOk W (w.heap.size + 1) = true := by rw [← hW]; simp [go_sem]
  clear hW
  have hWA := fun w' (h : New W w') n hn => rowAt_below h n hn
  have hWO := fun w' (h : New W w') n hn => rowOk_below h n hn
  have hWS := fun w' (h : New W w') n (hn : n < W.heap.size) => eq_true (Nat.lt_of_lt_of_le hn h.size)
  have hl2 := hl.new hnW
  have hv2 := hv.new hnW
  go_wp2_with (first
    | (go_at_call 56; refine (cloneI_any _ _ _ l _ hl2 (by omega)).mono ?_; rintro e w1 ⟨vi, rfl, hvi, hbW⟩; obtain ⟨A1, c1, rfl, hc1, hr1⟩ := hvi.rd; have hbI := New.rfl' w1)
    | (go_at_call 57; refine (cloneS_any _ _ _ v _ (hv2.new hbW) (by omega)).mono ?_; rintro e w2 ⟨vs, rfl, hvs, hb⟩; obtain ⟨A2, c2, rfl, hc2, hr2⟩ := hvs.rd; have hvs := hvs.lower hbW.size; have hbS := New.rfl' w2; have hbW := New.call hbW hb; have hbI := New.call hbI hb; clear hb)
    | (go_at_call 21; refine (HA.out _ (hl2.new hbW) (by omega)).mono ?_; rintro e w3 ⟨rfl, hb⟩; have hbW := New.call hbW hb; have hbI := New.call hbI hb; have hbS := New.call hbS hb; clear hb))
  go_ret3
  exact ⟨_, _, rfl, (hvi.new hbI).lower hnW.size, (hvs.new hbS).lower hnW.size, hnW.call hbW⟩
set_option maxHeartbeats 1600000 in
set_option maxRecDepth 100000 in
theorem do_bad2 (A : Option Addr) (n c : Nat) (l : List It) (fo : Int) (B : Option Addr) (m d : Nat) (v : List Sn) (op : Opr) (g : Gn) (sq : Int) (w : World) (hl : KI.Rd w A n l) (hv : KS.Rd w B m v) (hn : n ≤ 60) (hm : m ≤ 100) (hml : mayI l = true) (hmv : risS 0 v = false) :
    Calls Try.prog 32 #[.slice A n c, .int .u32 fo, .slice B m d, .agg (opA op), .agg (gnA g), .int .u64 sq] w fun e w' => ∃ a b, e = .returned (.tuple #[a, b, .int .u8 0]) ∧ KI.Own w' w.heap.size a l ∧ KS.Own w' w.heap.size b v ∧ New w w' := by
  obtain rfl : l.length = n := hl.1
  obtain rfl : v.length = m := hv.1
  have hA1 := imay_any A l.length c l
  rw [hml] at hA1
  have HA := Lib.hid hA1
  clear hA1 hml
  have hB1 := vmay_any B v.length d v
  rw [hmv] at hB1
  have HB := Lib.hid hB1
  clear hB1 hmv
  go_enter Try.func32, Try.ntmps32
  go_wp2_with fail
  have hnW : New w ((w.alloc (Obj.cells (opA op) 48)).alloc (Obj.cells (gnA g) 54)) := ((New.rfl' w).alloc' _).alloc' _
  generalize hW : ((w.alloc (Obj.cells (opA op) 48)).alloc (Obj.cells (gnA g) 54)) = W at *
  have hWz0 : w.heap.size < W.heap.size := by rw [← hW]; simp only [World.size_alloc]; omega
  have hWa0 : rowAt W (w.heap.size) = opA op := by rw [← hW]; simp [go_sem]
  have hWo0 : rowOk W (w.heap.size) = true := by rw [← hW]; simp [go_sem]
  have hWz1 : w.heap.size + 1 < W.heap.size := by rw [← hW]; simp only [World.size_alloc]; omega
  have hWa1 : rowAt W (w.heap.size + 1) = gnA g := by rw [← hW]; simp [go_sem]
  have hWo1 : rowOk W (w.heap.size + 1) = true := by rw [← hW]; simp [go_sem]
  clear hW
  have hWA := fun w' (h : New W w') n hn => rowAt_below h n hn
  have hWO := fun w' (h : New W w') n hn => rowOk_below h n hn
  have hWS := fun w' (h : New W w') n (hn : n < W.heap.size) => eq_true (Nat.lt_of_lt_of_le hn h.size)
  have hl2 := hl.new hnW
  have hv2 := hv.new hnW
  go_wp2_with (first
    | (go_at_call 56; refine (cloneI_any _ _ _ l _ hl2 (by omega)).mono ?_; rintro e w1 ⟨vi, rfl, hvi, hbW⟩; obtain ⟨A1, c1, rfl, hc1, hr1⟩ := hvi.rd; have hbI := New.rfl' w1)
    | (go_at_call 57; refine (cloneS_any _ _ _ v _ (hv2.new hbW) (by omega)).mono ?_; rintro e w2 ⟨vs, rfl, hvs, hb⟩; obtain ⟨A2, c2, rfl, hc2, hr2⟩ := hvs.rd; have hvs := hvs.lower hbW.size; have hbS := New.rfl' w2; have hbW := New.call hbW hb; have hbI := New.call hbI hb; clear hb)
    | (go_at_call 21; refine (HA.out _ (hl2.new hbW) (by omega)).mono ?_; rintro e w3 ⟨rfl, hb⟩; have hbW := New.call hbW hb; have hbI := New.call hbI hb; have hbS := New.call hbS hb; clear hb)
    | (go_at_call 42; refine (HB.out _ (hv2.new hbW) (by omega)).mono ?_; rintro e w4 ⟨rfl, hb⟩; have hbW := New.call hbW hb; have hbI := New.call hbI hb; have hbS := New.call hbS hb; clear hb))
  go_ret3
  exact ⟨_, _, rfl, (hvi.new hbI).lower hnW.size, (hvs.new hbS).lower hnW.size, hnW.call hbW⟩
set_option maxHeartbeats 1600000 in
set_option maxRecDepth 100000 in
theorem do_chg2 (A : Option Addr) (n c : Nat) (l : List It) (fo : Int) (B : Option Addr) (m d : Nat) (v : List Sn) (op : Opr) (g : Gn) (sq : Int) (w : World) (hl : KI.Rd w A n l) (hv : KS.Rd w B m v) (hn : n ≤ 60) (hm : m ≤ 100) (hml : mayI l = true) (hmv : risS 0 v = true) (hk : whatC l fo v op g = 2) (h1 : op.1 = 2) (g0 : 0 ≤ op.2.2.2.1) (g1 : op.2.2.2.1 < 256) (s0 : 0 ≤ gnSu g) (s1 : gnSu g < 256) :
    Calls Try.prog 32 #[.slice A n c, .int .u32 fo, .slice B m d, .agg (opA op), .agg (gnA g), .int .u64 sq] w fun e w' => ∃ a b, e = .returned (.tuple #[a, b, .int .u8 2]) ∧ KI.Own w' w.heap.size a (changeI l (newC l op g sq)).1 ∧ KS.Own w' w.heap.size b (setS v op.2.2.1 sq) ∧ New w w' := by
  obtain rfl : l.length = n := hl.1
  obtain rfl : v.length = m := hv.1
  have hA1 := imay_any A l.length c l
  rw [hml] at hA1
  have HA := Lib.hid hA1
  clear hA1 hml
  have hB1 := vmay_any B v.length d v
  rw [hmv] at hB1
  have HB := Lib.hid hB1
  clear hB1 hmv
  have hC1 := iFind_any A l.length c l op.2.2.1
  rw [show (findI l op.2.2.1).getD itZ = xC l op from rfl] at hC1
  have hD1 := vof_any B v.length d v op.2.2.1
  have hK1 := clof_any op.1 (findS v op.2.2.1).isSome ((findS v op.2.2.1).getD 0) (thC l fo op) (xC l op).2.2.1 (gnWi g)
  rw [show clOf _ _ _ _ _ _ = whatC l fo v op g from rfl, hk, thC, h1] at hK1
  unfold newC
  have hw1 : op.1 = 2 := h1
  clear hk
  generalize xC l op = x at *
  generalize (findI l op.2.2.1).isSome = it at *
  generalize (findS v op.2.2.1).isSome = st at *
  generalize (findS v op.2.2.1).getD 0 = sv at *
  cases it
  all_goals
    simp only [Bool.false_and, Bool.true_and] at hK1
    have HC := Lib.hid hC1
    have HD := Lib.hid hD1
    have HK := Lib.hid hK1
    clear hC1 hD1 hK1
    go_enter Try.func32, Try.ntmps32
    go_wp2_with fail
    have hnW : New w ((w.alloc (Obj.cells (opA op) 48)).alloc (Obj.cells (gnA g) 54)) := ((New.rfl' w).alloc' _).alloc' _
    generalize hW : ((w.alloc (Obj.cells (opA op) 48)).alloc (Obj.cells (gnA g) 54)) = W at *
    have hWz0 : w.heap.size < W.heap.size := by rw [← hW]; simp only [World.size_alloc]; omega
    have hWa0 : rowAt W (w.heap.size) = opA op := by rw [← hW]; simp [go_sem]
    have hWo0 : rowOk W (w.heap.size) = true := by rw [← hW]; simp [go_sem]
    have hWz1 : w.heap.size + 1 < W.heap.size := by rw [← hW]; simp only [World.size_alloc]; omega
    have hWa1 : rowAt W (w.heap.size + 1) = gnA g := by rw [← hW]; simp [go_sem]
    have hWo1 : rowOk W (w.heap.size + 1) = true := by rw [← hW]; simp [go_sem]
    clear hW
    have hWA := fun w' (h : New W w') n hn => rowAt_below h n hn
    have hWO := fun w' (h : New W w') n hn => rowOk_below h n hn
    have hWS := fun w' (h : New W w') n (hn : n < W.heap.size) => eq_true (Nat.lt_of_lt_of_le hn h.size)
    have hl2 := hl.new hnW
    have hv2 := hv.new hnW
    go_wp2_with (first
      | (go_at_call 56; refine (cloneI_any _ _ _ l _ hl2 (by omega)).mono ?_; rintro e w1 ⟨vi, rfl, hvi, hbW⟩; obtain ⟨A1, c1, rfl, hc1, hr1⟩ := hvi.rd; have hbI := New.rfl' w1)
      | (go_at_call 57; refine (cloneS_any _ _ _ v _ (hv2.new hbW) (by omega)).mono ?_; rintro e w2 ⟨vs, rfl, hvs, hb⟩; obtain ⟨A2, c2, rfl, hc2, hr2⟩ := hvs.rd; have hvs := hvs.lower hbW.size; have hbS := New.rfl' w2; have hbW := New.call hbW hb; have hbI := New.call hbI hb; clear hb)
      | (go_at_call 21; refine (HA.out _ (hl2.new hbW) (by omega)).mono ?_; rintro e w3 ⟨rfl, hb⟩; have hbW := New.call hbW hb; have hbI := New.call hbI hb; have hbS := New.call hbS hb; clear hb)
      | (go_at_call 42; refine (HB.out _ (hv2.new hbW) (by omega)).mono ?_; rintro e w4 ⟨rfl, hb⟩; have hbW := New.call hbW hb; have hbI := New.call hbI hb; have hbS := New.call hbS hb; clear hb)
      | (go_at_call 39; refine (HD.out _ (hv2.new hbW) (by omega)).mono ?_; rintro e w5 ⟨rfl, hb⟩; have hbW := New.call hbW hb; have hbI := New.call hbI hb; have hbS := New.call hbS hb; clear hb)
      | (go_at_call 22; refine (HC.out _ (hl2.new hbW) (by omega)).mono ?_; rintro e w6 ⟨rfl, hb⟩; have hbW := New.call hbW hb; have hbI := New.call hbI hb; have hbS := New.call hbS hb; clear hb))
    have hzI := hbI.size
    have hzS := hbS.size
    have hzW := hbW.size
    have hnX : New w6 (w6.alloc (Obj.cells (itA x) 28)) := (New.rfl' w6).alloc' _
    generalize hX : (w6.alloc (Obj.cells (itA x) 28)) = X at *
    have hXz0 : w6.heap.size < X.heap.size := by rw [← hX]; simp only [World.size_alloc]; omega
    have hXa0 : rowAt X (w6.heap.size) = itA x := by rw [← hX]; simp [go_sem]
    have hXo0 : rowOk X (w6.heap.size) = true := by rw [← hX]; simp [go_sem]
    clear hX
    have hXA := fun w' (h : New X w') n hn => rowAt_below h n hn
    have hXO := fun w' (h : New X w') n hn => rowOk_below h n hn
    have hXS := fun w' (h : New X w') n (hn : n < X.heap.size) => eq_true (Nat.lt_of_lt_of_le hn h.size)
    have hbW := hbW.call hnX
    have hbI := hbI.call hnX
    have hbS := hbS.call hnX
    go_wp2_with (first
      | (go_at_call 54; refine (HK.out _).mono ?_; rintro e w7 ⟨rfl, rfl⟩)
      | (go_at_call 58; refine (merge_any _ _ _ _ _ _ g0 g1 s0 s1).mono ?_; rintro e w8 ⟨rfl, hb8⟩; have hbW := New.call hbW hb8; have hbI := New.call hbI hb8; have hbS := New.call hbS hb8)
      | (go_at_call 14; have hbW := hbW.row w6.heap.size (itA (x.1, x.2.1, sq, mg x.2.2.2 op.2.2.2.2 op.2.2.2.1 (gnLi g) (gnSu g))) hzW; have hbI := hbI.row w6.heap.size (itA (x.1, x.2.1, sq, mg x.2.2.2 op.2.2.2.2 op.2.2.2.1 (gnLi g) (gnSu g))) hzI; have hbS := hbS.row w6.heap.size (itA (x.1, x.2.1, sq, mg x.2.2.2 op.2.2.2.2 op.2.2.2.1 (gnLi g) (gnSu g))) hzS; refine (iChange_any _ _ _ l _ _ (hr1.new hbI) hc1 (by omega)).mono ?_; rintro e w9 ⟨vc, rfl, hvc, hb⟩; have hvc := hvc.lower hbW.size; have hbW := New.call hbW hb; have hbS := New.call hbS hb; clear hb)
      | (go_at_call 40; refine (vset_any _ _ _ v _ _ _ (hr2.new hbS) (by omega)).mono ?_; rintro e w10 ⟨vd, rfl, hvd, hb⟩; have hvd := hvd.lower hbW.size; have hvc := hvc.new hb; have hbW := New.call hbW hb; clear hb))
    go_ret3
    exact ⟨_, _, rfl, hvc.lower hnW.size, hvd.lower hnW.size, hnW.call hbW⟩
set_option maxHeartbeats 1600000 in
set_option maxRecDepth 100000 in
theorem do_chg3 (A : Option Addr) (n c : Nat) (l : List It) (fo : Int) (B : Option Addr) (m d : Nat) (v : List Sn) (op : Opr) (g : Gn) (sq : Int) (w : World) (hl : KI.Rd w A n l) (hv : KS.Rd w B m v) (hn : n ≤ 60) (hm : m ≤ 100) (hml : mayI l = true) (hmv : risS 0 v = true) (hk : whatC l fo v op g = 3) (h1 : op.1 = 2) (g0 : 0 ≤ op.2.2.2.1) (g1 : op.2.2.2.1 < 256) (s0 : 0 ≤ gnSu g) (s1 : gnSu g < 256) :
    Calls Try.prog 32 #[.slice A n c, .int .u32 fo, .slice B m d, .agg (opA op), .agg (gnA g), .int .u64 sq] w fun e w' => ∃ a b, e = .returned (.tuple #[a, b, .int .u8 3]) ∧ KI.Own w' w.heap.size a (changeI l (newC l op g sq)).1 ∧ KS.Own w' w.heap.size b v ∧ New w w' := by
  obtain rfl : l.length = n := hl.1
  obtain rfl : v.length = m := hv.1
  have hA1 := imay_any A l.length c l
  rw [hml] at hA1
  have HA := Lib.hid hA1
  clear hA1 hml
  have hB1 := vmay_any B v.length d v
  rw [hmv] at hB1
  have HB := Lib.hid hB1
  clear hB1 hmv
  have hC1 := iFind_any A l.length c l op.2.2.1
  rw [show (findI l op.2.2.1).getD itZ = xC l op from rfl] at hC1
  have hD1 := vof_any B v.length d v op.2.2.1
  have hK1 := clof_any op.1 (findS v op.2.2.1).isSome ((findS v op.2.2.1).getD 0) (thC l fo op) (xC l op).2.2.1 (gnWi g)
  rw [show clOf _ _ _ _ _ _ = whatC l fo v op g from rfl, hk, thC, h1] at hK1
  unfold newC
  have hw1 : op.1 = 2 := h1
  clear hk
  generalize xC l op = x at *
  generalize (findI l op.2.2.1).isSome = it at *
  generalize (findS v op.2.2.1).isSome = st at *
  generalize (findS v op.2.2.1).getD 0 = sv at *
  cases it
  all_goals
    simp only [Bool.false_and, Bool.true_and] at hK1
    have HC := Lib.hid hC1
    have HD := Lib.hid hD1
    have HK := Lib.hid hK1
    clear hC1 hD1 hK1
    go_enter Try.func32, Try.ntmps32
    go_wp2_with fail
    have hnW : New w ((w.alloc (Obj.cells (opA op) 48)).alloc (Obj.cells (gnA g) 54)) := ((New.rfl' w).alloc' _).alloc' _
    generalize hW : ((w.alloc (Obj.cells (opA op) 48)).alloc (Obj.cells (gnA g) 54)) = W at *
    have hWz0 : w.heap.size < W.heap.size := by rw [← hW]; simp only [World.size_alloc]; omega
    have hWa0 : rowAt W (w.heap.size) = opA op := by rw [← hW]; simp [go_sem]
    have hWo0 : rowOk W (w.heap.size) = true := by rw [← hW]; simp [go_sem]
    have hWz1 : w.heap.size + 1 < W.heap.size := by rw [← hW]; simp only [World.size_alloc]; omega
    have hWa1 : rowAt W (w.heap.size + 1) = gnA g := by rw [← hW]; simp [go_sem]
    have hWo1 : rowOk W (w.heap.size + 1) = true := by rw [← hW]; simp [go_sem]
    clear hW
    have hWA := fun w' (h : New W w') n hn => rowAt_below h n hn
    have hWO := fun w' (h : New W w') n hn => rowOk_below h n hn
    have hWS := fun w' (h : New W w') n (hn : n < W.heap.size) => eq_true (Nat.lt_of_lt_of_le hn h.size)
    have hl2 := hl.new hnW
    have hv2 := hv.new hnW
    go_wp2_with (first
      | (go_at_call 56; refine (cloneI_any _ _ _ l _ hl2 (by omega)).mono ?_; rintro e w1 ⟨vi, rfl, hvi, hbW⟩; obtain ⟨A1, c1, rfl, hc1, hr1⟩ := hvi.rd; have hbI := New.rfl' w1)
      | (go_at_call 57; refine (cloneS_any _ _ _ v _ (hv2.new hbW) (by omega)).mono ?_; rintro e w2 ⟨vs, rfl, hvs, hb⟩; obtain ⟨A2, c2, rfl, hc2, hr2⟩ := hvs.rd; have hvs := hvs.lower hbW.size; have hbS := New.rfl' w2; have hbW := New.call hbW hb; have hbI := New.call hbI hb; clear hb)
      | (go_at_call 21; refine (HA.out _ (hl2.new hbW) (by omega)).mono ?_; rintro e w3 ⟨rfl, hb⟩; have hbW := New.call hbW hb; have hbI := New.call hbI hb; have hbS := New.call hbS hb; clear hb)
      | (go_at_call 42; refine (HB.out _ (hv2.new hbW) (by omega)).mono ?_; rintro e w4 ⟨rfl, hb⟩; have hbW := New.call hbW hb; have hbI := New.call hbI hb; have hbS := New.call hbS hb; clear hb)
      | (go_at_call 39; refine (HD.out _ (hv2.new hbW) (by omega)).mono ?_; rintro e w5 ⟨rfl, hb⟩; have hbW := New.call hbW hb; have hbI := New.call hbI hb; have hbS := New.call hbS hb; clear hb)
      | (go_at_call 22; refine (HC.out _ (hl2.new hbW) (by omega)).mono ?_; rintro e w6 ⟨rfl, hb⟩; have hbW := New.call hbW hb; have hbI := New.call hbI hb; have hbS := New.call hbS hb; clear hb))
    have hzI := hbI.size
    have hzS := hbS.size
    have hzW := hbW.size
    have hnX : New w6 (w6.alloc (Obj.cells (itA x) 28)) := (New.rfl' w6).alloc' _
    generalize hX : (w6.alloc (Obj.cells (itA x) 28)) = X at *
    have hXz0 : w6.heap.size < X.heap.size := by rw [← hX]; simp only [World.size_alloc]; omega
    have hXa0 : rowAt X (w6.heap.size) = itA x := by rw [← hX]; simp [go_sem]
    have hXo0 : rowOk X (w6.heap.size) = true := by rw [← hX]; simp [go_sem]
    clear hX
    have hXA := fun w' (h : New X w') n hn => rowAt_below h n hn
    have hXO := fun w' (h : New X w') n hn => rowOk_below h n hn
    have hXS := fun w' (h : New X w') n (hn : n < X.heap.size) => eq_true (Nat.lt_of_lt_of_le hn h.size)
    have hbW := hbW.call hnX
    have hbI := hbI.call hnX
    have hbS := hbS.call hnX
    go_wp2_with (first
      | (go_at_call 54; refine (HK.out _).mono ?_; rintro e w7 ⟨rfl, rfl⟩)
      | (go_at_call 58; refine (merge_any _ _ _ _ _ _ g0 g1 s0 s1).mono ?_; rintro e w8 ⟨rfl, hb8⟩; have hbW := New.call hbW hb8; have hbI := New.call hbI hb8; have hbS := New.call hbS hb8)
      | (go_at_call 14; have hbW := hbW.row w6.heap.size (itA (x.1, x.2.1, sq, mg x.2.2.2 op.2.2.2.2 op.2.2.2.1 (gnLi g) (gnSu g))) hzW; have hbI := hbI.row w6.heap.size (itA (x.1, x.2.1, sq, mg x.2.2.2 op.2.2.2.2 op.2.2.2.1 (gnLi g) (gnSu g))) hzI; have hbS := hbS.row w6.heap.size (itA (x.1, x.2.1, sq, mg x.2.2.2 op.2.2.2.2 op.2.2.2.1 (gnLi g) (gnSu g))) hzS; refine (iChange_any _ _ _ l _ _ (hr1.new hbI) hc1 (by omega)).mono ?_; rintro e w9 ⟨vc, rfl, hvc, hb⟩; have hvc := hvc.lower hbW.size; have hbW := New.call hbW hb; have hbS := New.call hbS hb; clear hb))
    go_ret3
    exact ⟨_, _, rfl, hvc.lower hnW.size, (hvs.new hbS).lower hnW.size, hnW.call hbW⟩
set_option maxHeartbeats 1600000 in
set_option maxRecDepth 100000 in
theorem do_gone (A : Option Addr) (n c : Nat) (l : List It) (fo : Int) (B : Option Addr) (m d : Nat) (v : List Sn) (op : Opr) (g : Gn) (sq : Int) (w : World) (hl : KI.Rd w A n l) (hv : KS.Rd w B m v) (hn : n ≤ 60) (hm : m ≤ 100) (hml : mayI l = true) (hmv : risS 0 v = true) (hk : whatC l fo v op g = 5) :
    Calls Try.prog 32 #[.slice A n c, .int .u32 fo, .slice B m d, .agg (opA op), .agg (gnA g), .int .u64 sq] w fun e w' => ∃ a b, e = .returned (.tuple #[a, b, .int .u8 5]) ∧ KI.Own w' w.heap.size a l ∧ KS.Own w' w.heap.size b (dropS v op.2.2.1) ∧ New w w' := by
  obtain rfl : l.length = n := hl.1
  obtain rfl : v.length = m := hv.1
  have hA1 := imay_any A l.length c l
  rw [hml] at hA1
  have HA := Lib.hid hA1
  clear hA1 hml
  have hB1 := vmay_any B v.length d v
  rw [hmv] at hB1
  have HB := Lib.hid hB1
  clear hB1 hmv
  have hC1 := iFind_any A l.length c l op.2.2.1
  rw [show (findI l op.2.2.1).getD itZ = xC l op from rfl] at hC1
  have hD1 := vof_any B v.length d v op.2.2.1
  have hK1 := clof_any op.1 (findS v op.2.2.1).isSome ((findS v op.2.2.1).getD 0) (thC l fo op) (xC l op).2.2.1 (gnWi g)
  rw [show clOf _ _ _ _ _ _ = whatC l fo v op g from rfl, hk, thC] at hK1
  clear hk
  generalize xC l op = x at *
  generalize (findI l op.2.2.1).isSome = it at *
  generalize (findS v op.2.2.1).isSome = st at *
  generalize (findS v op.2.2.1).getD 0 = sv at *
  cases it
  all_goals
    simp only [Bool.false_and, Bool.true_and] at hK1
    have HC := Lib.hid hC1
    have HD := Lib.hid hD1
    have HK := Lib.hid hK1
    clear hC1 hD1 hK1
    go_enter Try.func32, Try.ntmps32
    go_wp2_with fail
    have hnW : New w ((w.alloc (Obj.cells (opA op) 48)).alloc (Obj.cells (gnA g) 54)) := ((New.rfl' w).alloc' _).alloc' _
    generalize hW : ((w.alloc (Obj.cells (opA op) 48)).alloc (Obj.cells (gnA g) 54)) = W at *
    have hWz0 : w.heap.size < W.heap.size := by rw [← hW]; simp only [World.size_alloc]; omega
    have hWa0 : rowAt W (w.heap.size) = opA op := by rw [← hW]; simp [go_sem]
    have hWo0 : rowOk W (w.heap.size) = true := by rw [← hW]; simp [go_sem]
    have hWz1 : w.heap.size + 1 < W.heap.size := by rw [← hW]; simp only [World.size_alloc]; omega
    have hWa1 : rowAt W (w.heap.size + 1) = gnA g := by rw [← hW]; simp [go_sem]
    have hWo1 : rowOk W (w.heap.size + 1) = true := by rw [← hW]; simp [go_sem]
    clear hW
    have hWA := fun w' (h : New W w') n hn => rowAt_below h n hn
    have hWO := fun w' (h : New W w') n hn => rowOk_below h n hn
    have hWS := fun w' (h : New W w') n (hn : n < W.heap.size) => eq_true (Nat.lt_of_lt_of_le hn h.size)
    have hl2 := hl.new hnW
    have hv2 := hv.new hnW
    go_wp2_with (first
      | (go_at_call 56; refine (cloneI_any _ _ _ l _ hl2 (by omega)).mono ?_; rintro e w1 ⟨vi, rfl, hvi, hbW⟩; obtain ⟨A1, c1, rfl, hc1, hr1⟩ := hvi.rd; have hbI := New.rfl' w1)
      | (go_at_call 57; refine (cloneS_any _ _ _ v _ (hv2.new hbW) (by omega)).mono ?_; rintro e w2 ⟨vs, rfl, hvs, hb⟩; obtain ⟨A2, c2, rfl, hc2, hr2⟩ := hvs.rd; have hvs := hvs.lower hbW.size; have hbS := New.rfl' w2; have hbW := New.call hbW hb; have hbI := New.call hbI hb; clear hb)
      | (go_at_call 21; refine (HA.out _ (hl2.new hbW) (by omega)).mono ?_; rintro e w3 ⟨rfl, hb⟩; have hbW := New.call hbW hb; have hbI := New.call hbI hb; have hbS := New.call hbS hb; clear hb)
      | (go_at_call 42; refine (HB.out _ (hv2.new hbW) (by omega)).mono ?_; rintro e w4 ⟨rfl, hb⟩; have hbW := New.call hbW hb; have hbI := New.call hbI hb; have hbS := New.call hbS hb; clear hb)
      | (go_at_call 39; refine (HD.out _ (hv2.new hbW) (by omega)).mono ?_; rintro e w5 ⟨rfl, hb⟩; have hbW := New.call hbW hb; have hbI := New.call hbI hb; have hbS := New.call hbS hb; clear hb)
      | (go_at_call 22; refine (HC.out _ (hl2.new hbW) (by omega)).mono ?_; rintro e w6 ⟨rfl, hb⟩; have hbW := New.call hbW hb; have hbI := New.call hbI hb; have hbS := New.call hbS hb; clear hb))
    have hzI := hbI.size
    have hzS := hbS.size
    have hzW := hbW.size
    have hnX : New w6 (w6.alloc (Obj.cells (itA x) 28)) := (New.rfl' w6).alloc' _
    generalize hX : (w6.alloc (Obj.cells (itA x) 28)) = X at *
    have hXz0 : w6.heap.size < X.heap.size := by rw [← hX]; simp only [World.size_alloc]; omega
    have hXa0 : rowAt X (w6.heap.size) = itA x := by rw [← hX]; simp [go_sem]
    have hXo0 : rowOk X (w6.heap.size) = true := by rw [← hX]; simp [go_sem]
    clear hX
    have hXA := fun w' (h : New X w') n hn => rowAt_below h n hn
    have hXO := fun w' (h : New X w') n hn => rowOk_below h n hn
    have hXS := fun w' (h : New X w') n (hn : n < X.heap.size) => eq_true (Nat.lt_of_lt_of_le hn h.size)
    have hbW := hbW.call hnX
    have hbI := hbI.call hnX
    have hbS := hbS.call hnX
    go_wp2_with (first
      | (go_at_call 54; refine (HK.out _).mono ?_; rintro e w7 ⟨rfl, rfl⟩)
      | (go_at_call 41; refine (vdrop_any _ _ _ v _ _ (hr2.new hbS) (by omega)).mono ?_; rintro e w10 ⟨vd, rfl, hvd, hb⟩; have hvd := hvd.lower hbW.size; have hbI := New.call hbI hb; have hbW := New.call hbW hb; clear hb))
    go_ret3
    exact ⟨_, _, rfl, (hvi.new hbI).lower hnW.size, hvd.lower hnW.size, hnW.call hbW⟩
set_option maxHeartbeats 1600000 in
set_option maxRecDepth 100000 in
theorem do_del2 (A : Option Addr) (n c : Nat) (l : List It) (fo : Int) (B : Option Addr) (m d : Nat) (v : List Sn) (op : Opr) (g : Gn) (sq : Int) (w : World) (hl : KI.Rd w A n l) (hv : KS.Rd w B m v) (hn : n ≤ 60) (hm : m ≤ 100) (hml : mayI l = true) (hmv : risS 0 v = true) (hk : whatC l fo v op g = 2) (h1 : op.1 = 3) :
    Calls Try.prog 32 #[.slice A n c, .int .u32 fo, .slice B m d, .agg (opA op), .agg (gnA g), .int .u64 sq] w fun e w' => ∃ a b, e = .returned (.tuple #[a, b, .int .u8 2]) ∧ KI.Own w' w.heap.size a (dropI l op.2.2.1).1 ∧ KS.Own w' w.heap.size b (dropS v op.2.2.1) ∧ New w w' := by
  obtain rfl : l.length = n := hl.1
  obtain rfl : v.length = m := hv.1
  have hA1 := imay_any A l.length c l
  rw [hml] at hA1
  have HA := Lib.hid hA1
  clear hA1 hml
  have hB1 := vmay_any B v.length d v
  rw [hmv] at hB1
  have HB := Lib.hid hB1
  clear hB1 hmv
  have hC1 := iFind_any A l.length c l op.2.2.1
  rw [show (findI l op.2.2.1).getD itZ = xC l op from rfl] at hC1
  have hD1 := vof_any B v.length d v op.2.2.1
  have hK1 := clof_any op.1 (findS v op.2.2.1).isSome ((findS v op.2.2.1).getD 0) (thC l fo op) (xC l op).2.2.1 (gnWi g)
  rw [show clOf _ _ _ _ _ _ = whatC l fo v op g from rfl, hk, thC, h1] at hK1
  have hw1 : op.1 = 3 := h1
  clear hk
  generalize xC l op = x at *
  generalize (findI l op.2.2.1).isSome = it at *
  generalize (findS v op.2.2.1).isSome = st at *
  generalize (findS v op.2.2.1).getD 0 = sv at *
  cases it
  all_goals
    simp only [Bool.false_and, Bool.true_and] at hK1
    have HC := Lib.hid hC1
    have HD := Lib.hid hD1
    have HK := Lib.hid hK1
    clear hC1 hD1 hK1
    go_enter Try.func32, Try.ntmps32
    go_wp2_with fail
    have hnW : New w ((w.alloc (Obj.cells (opA op) 48)).alloc (Obj.cells (gnA g) 54)) := ((New.rfl' w).alloc' _).alloc' _
    generalize hW : ((w.alloc (Obj.cells (opA op) 48)).alloc (Obj.cells (gnA g) 54)) = W at *
    have hWz0 : w.heap.size < W.heap.size := by rw [← hW]; simp only [World.size_alloc]; omega
    have hWa0 : rowAt W (w.heap.size) = opA op := by rw [← hW]; simp [go_sem]
    have hWo0 : rowOk W (w.heap.size) = true := by rw [← hW]; simp [go_sem]
    have hWz1 : w.heap.size + 1 < W.heap.size := by rw [← hW]; simp only [World.size_alloc]; omega
    have hWa1 : rowAt W (w.heap.size + 1) = gnA g := by rw [← hW]; simp [go_sem]
    have hWo1 : rowOk W (w.heap.size + 1) = true := by rw [← hW]; simp [go_sem]
    clear hW
    have hWA := fun w' (h : New W w') n hn => rowAt_below h n hn
    have hWO := fun w' (h : New W w') n hn => rowOk_below h n hn
    have hWS := fun w' (h : New W w') n (hn : n < W.heap.size) => eq_true (Nat.lt_of_lt_of_le hn h.size)
    have hl2 := hl.new hnW
    have hv2 := hv.new hnW
    go_wp2_with (first
      | (go_at_call 56; refine (cloneI_any _ _ _ l _ hl2 (by omega)).mono ?_; rintro e w1 ⟨vi, rfl, hvi, hbW⟩; obtain ⟨A1, c1, rfl, hc1, hr1⟩ := hvi.rd; have hbI := New.rfl' w1)
      | (go_at_call 57; refine (cloneS_any _ _ _ v _ (hv2.new hbW) (by omega)).mono ?_; rintro e w2 ⟨vs, rfl, hvs, hb⟩; obtain ⟨A2, c2, rfl, hc2, hr2⟩ := hvs.rd; have hvs := hvs.lower hbW.size; have hbS := New.rfl' w2; have hbW := New.call hbW hb; have hbI := New.call hbI hb; clear hb)
      | (go_at_call 21; refine (HA.out _ (hl2.new hbW) (by omega)).mono ?_; rintro e w3 ⟨rfl, hb⟩; have hbW := New.call hbW hb; have hbI := New.call hbI hb; have hbS := New.call hbS hb; clear hb)
      | (go_at_call 42; refine (HB.out _ (hv2.new hbW) (by omega)).mono ?_; rintro e w4 ⟨rfl, hb⟩; have hbW := New.call hbW hb; have hbI := New.call hbI hb; have hbS := New.call hbS hb; clear hb)
      | (go_at_call 39; refine (HD.out _ (hv2.new hbW) (by omega)).mono ?_; rintro e w5 ⟨rfl, hb⟩; have hbW := New.call hbW hb; have hbI := New.call hbI hb; have hbS := New.call hbS hb; clear hb)
      | (go_at_call 22; refine (HC.out _ (hl2.new hbW) (by omega)).mono ?_; rintro e w6 ⟨rfl, hb⟩; have hbW := New.call hbW hb; have hbI := New.call hbI hb; have hbS := New.call hbS hb; clear hb))
    have hzI := hbI.size
    have hzS := hbS.size
    have hzW := hbW.size
    have hnX : New w6 (w6.alloc (Obj.cells (itA x) 28)) := (New.rfl' w6).alloc' _
    generalize hX : (w6.alloc (Obj.cells (itA x) 28)) = X at *
    have hXz0 : w6.heap.size < X.heap.size := by rw [← hX]; simp only [World.size_alloc]; omega
    have hXa0 : rowAt X (w6.heap.size) = itA x := by rw [← hX]; simp [go_sem]
    have hXo0 : rowOk X (w6.heap.size) = true := by rw [← hX]; simp [go_sem]
    clear hX
    have hXA := fun w' (h : New X w') n hn => rowAt_below h n hn
    have hXO := fun w' (h : New X w') n hn => rowOk_below h n hn
    have hXS := fun w' (h : New X w') n (hn : n < X.heap.size) => eq_true (Nat.lt_of_lt_of_le hn h.size)
    have hbW := hbW.call hnX
    have hbI := hbI.call hnX
    have hbS := hbS.call hnX
    go_wp2_with (first
      | (go_at_call 54; refine (HK.out _).mono ?_; rintro e w7 ⟨rfl, rfl⟩)
      | (go_at_call 16; refine (iDrop_any _ _ _ l _ _ (hr1.new hbI) hc1 (by omega)).mono ?_; rintro e w9 ⟨vc, rfl, hvc, hb⟩; have hvc := hvc.lower hbW.size; have hbW := New.call hbW hb; have hbS := New.call hbS hb; clear hb)
      | (go_at_call 41; refine (vdrop_any _ _ _ v _ _ (hr2.new hbS) (by omega)).mono ?_; rintro e w10 ⟨vd, rfl, hvd, hb⟩; have hvd := hvd.lower hbW.size; have hvc := hvc.new hb; have hbW := New.call hbW hb; clear hb))
    go_ret3
    exact ⟨_, _, rfl, hvc.lower hnW.size, hvd.lower hnW.size, hnW.call hbW⟩
set_option maxHeartbeats 1600000 in
set_option maxRecDepth 100000 in
theorem do_del3 (A : Option Addr) (n c : Nat) (l : List It) (fo : Int) (B : Option Addr) (m d : Nat) (v : List Sn) (op : Opr) (g : Gn) (sq : Int) (w : World) (hl : KI.Rd w A n l) (hv : KS.Rd w B m v) (hn : n ≤ 60) (hm : m ≤ 100) (hml : mayI l = true) (hmv : risS 0 v = true) (hk : whatC l fo v op g = 3) (h1 : op.1 = 3) :
    Calls Try.prog 32 #[.slice A n c, .int .u32 fo, .slice B m d, .agg (opA op), .agg (gnA g), .int .u64 sq] w fun e w' => ∃ a b, e = .returned (.tuple #[a, b, .int .u8 3]) ∧ KI.Own w' w.heap.size a (dropI l op.2.2.1).1 ∧ KS.Own w' w.heap.size b (dropS v op.2.2.1) ∧ New w w' := by
  obtain rfl : l.length = n := hl.1
  obtain rfl : v.length = m := hv.1
  have hA1 := imay_any A l.length c l
  rw [hml] at hA1
  have HA := Lib.hid hA1
  clear hA1 hml
  have hB1 := vmay_any B v.length d v
  rw [hmv] at hB1
  have HB := Lib.hid hB1
  clear hB1 hmv
  have hC1 := iFind_any A l.length c l op.2.2.1
  rw [show (findI l op.2.2.1).getD itZ = xC l op from rfl] at hC1
  have hD1 := vof_any B v.length d v op.2.2.1
  have hK1 := clof_any op.1 (findS v op.2.2.1).isSome ((findS v op.2.2.1).getD 0) (thC l fo op) (xC l op).2.2.1 (gnWi g)
  rw [show clOf _ _ _ _ _ _ = whatC l fo v op g from rfl, hk, thC, h1] at hK1
  have hw1 : op.1 = 3 := h1
  clear hk
  generalize xC l op = x at *
  generalize (findI l op.2.2.1).isSome = it at *
  generalize (findS v op.2.2.1).isSome = st at *
  generalize (findS v op.2.2.1).getD 0 = sv at *
  cases it
  all_goals
    simp only [Bool.false_and, Bool.true_and] at hK1
    have HC := Lib.hid hC1
    have HD := Lib.hid hD1
    have HK := Lib.hid hK1
    clear hC1 hD1 hK1
    go_enter Try.func32, Try.ntmps32
    go_wp2_with fail
    have hnW : New w ((w.alloc (Obj.cells (opA op) 48)).alloc (Obj.cells (gnA g) 54)) := ((New.rfl' w).alloc' _).alloc' _
    generalize hW : ((w.alloc (Obj.cells (opA op) 48)).alloc (Obj.cells (gnA g) 54)) = W at *
    have hWz0 : w.heap.size < W.heap.size := by rw [← hW]; simp only [World.size_alloc]; omega
    have hWa0 : rowAt W (w.heap.size) = opA op := by rw [← hW]; simp [go_sem]
    have hWo0 : rowOk W (w.heap.size) = true := by rw [← hW]; simp [go_sem]
    have hWz1 : w.heap.size + 1 < W.heap.size := by rw [← hW]; simp only [World.size_alloc]; omega
    have hWa1 : rowAt W (w.heap.size + 1) = gnA g := by rw [← hW]; simp [go_sem]
    have hWo1 : rowOk W (w.heap.size + 1) = true := by rw [← hW]; simp [go_sem]
    clear hW
    have hWA := fun w' (h : New W w') n hn => rowAt_below h n hn
    have hWO := fun w' (h : New W w') n hn => rowOk_below h n hn
    have hWS := fun w' (h : New W w') n (hn : n < W.heap.size) => eq_true (Nat.lt_of_lt_of_le hn h.size)
    have hl2 := hl.new hnW
    have hv2 := hv.new hnW
    go_wp2_with (first
      | (go_at_call 56; refine (cloneI_any _ _ _ l _ hl2 (by omega)).mono ?_; rintro e w1 ⟨vi, rfl, hvi, hbW⟩; obtain ⟨A1, c1, rfl, hc1, hr1⟩ := hvi.rd; have hbI := New.rfl' w1)
      | (go_at_call 57; refine (cloneS_any _ _ _ v _ (hv2.new hbW) (by omega)).mono ?_; rintro e w2 ⟨vs, rfl, hvs, hb⟩; obtain ⟨A2, c2, rfl, hc2, hr2⟩ := hvs.rd; have hvs := hvs.lower hbW.size; have hbS := New.rfl' w2; have hbW := New.call hbW hb; have hbI := New.call hbI hb; clear hb)
      | (go_at_call 21; refine (HA.out _ (hl2.new hbW) (by omega)).mono ?_; rintro e w3 ⟨rfl, hb⟩; have hbW := New.call hbW hb; have hbI := New.call hbI hb; have hbS := New.call hbS hb; clear hb)
      | (go_at_call 42; refine (HB.out _ (hv2.new hbW) (by omega)).mono ?_; rintro e w4 ⟨rfl, hb⟩; have hbW := New.call hbW hb; have hbI := New.call hbI hb; have hbS := New.call hbS hb; clear hb)
      | (go_at_call 39; refine (HD.out _ (hv2.new hbW) (by omega)).mono ?_; rintro e w5 ⟨rfl, hb⟩; have hbW := New.call hbW hb; have hbI := New.call hbI hb; have hbS := New.call hbS hb; clear hb)
      | (go_at_call 22; refine (HC.out _ (hl2.new hbW) (by omega)).mono ?_; rintro e w6 ⟨rfl, hb⟩; have hbW := New.call hbW hb; have hbI := New.call hbI hb; have hbS := New.call hbS hb; clear hb))
    have hzI := hbI.size
    have hzS := hbS.size
    have hzW := hbW.size
    have hnX : New w6 (w6.alloc (Obj.cells (itA x) 28)) := (New.rfl' w6).alloc' _
    generalize hX : (w6.alloc (Obj.cells (itA x) 28)) = X at *
    have hXz0 : w6.heap.size < X.heap.size := by rw [← hX]; simp only [World.size_alloc]; omega
    have hXa0 : rowAt X (w6.heap.size) = itA x := by rw [← hX]; simp [go_sem]
    have hXo0 : rowOk X (w6.heap.size) = true := by rw [← hX]; simp [go_sem]
    clear hX
    have hXA := fun w' (h : New X w') n hn => rowAt_below h n hn
    have hXO := fun w' (h : New X w') n hn => rowOk_below h n hn
    have hXS := fun w' (h : New X w') n (hn : n < X.heap.size) => eq_true (Nat.lt_of_lt_of_le hn h.size)
    have hbW := hbW.call hnX
    have hbI := hbI.call hnX
    have hbS := hbS.call hnX
    go_wp2_with (first
      | (go_at_call 54; refine (HK.out _).mono ?_; rintro e w7 ⟨rfl, rfl⟩)
      | (go_at_call 16; refine (iDrop_any _ _ _ l _ _ (hr1.new hbI) hc1 (by omega)).mono ?_; rintro e w9 ⟨vc, rfl, hvc, hb⟩; have hvc := hvc.lower hbW.size; have hbW := New.call hbW hb; have hbS := New.call hbS hb; clear hb)
      | (go_at_call 41; refine (vdrop_any _ _ _ v _ _ (hr2.new hbS) (by omega)).mono ?_; rintro e w10 ⟨vd, rfl, hvd, hb⟩; have hvd := hvd.lower hbW.size; have hvc := hvc.new hb; have hbW := New.call hbW hb; clear hb))
    go_ret3
    exact ⟨_, _, rfl, hvc.lower hnW.size, hvd.lower hnW.size, hnW.call hbW⟩
set_option maxHeartbeats 1600000 in
set_option maxRecDepth 100000 in
theorem do_none0 (A : Option Addr) (n c : Nat) (l : List It) (fo : Int) (B : Option Addr) (m d : Nat) (v : List Sn) (op : Opr) (g : Gn) (sq : Int) (w : World) (hl : KI.Rd w A n l) (hv : KS.Rd w B m v) (hn : n ≤ 60) (hm : m ≤ 100) (hml : mayI l = true) (hmv : risS 0 v = true) (hk : whatC l fo v op g = 0) :
    Calls Try.prog 32 #[.slice A n c, .int .u32 fo, .slice B m d, .agg (opA op), .agg (gnA g), .int .u64 sq] w fun e w' => ∃ a b, e = .returned (.tuple #[a, b, .int .u8 0]) ∧ KI.Own w' w.heap.size a l ∧ KS.Own w' w.heap.size b v ∧ New w w' := by
  obtain rfl : l.length = n := hl.1
  obtain rfl : v.length = m := hv.1
  have hA1 := imay_any A l.length c l
  rw [hml] at hA1
  have HA := Lib.hid hA1
  clear hA1 hml
  have hB1 := vmay_any B v.length d v
  rw [hmv] at hB1
  have HB := Lib.hid hB1
  clear hB1 hmv
  have hC1 := iFind_any A l.length c l op.2.2.1
  rw [show (findI l op.2.2.1).getD itZ = xC l op from rfl] at hC1
  have hD1 := vof_any B v.length d v op.2.2.1
  have hK1 := clof_any op.1 (findS v op.2.2.1).isSome ((findS v op.2.2.1).getD 0) (thC l fo op) (xC l op).2.2.1 (gnWi g)
  rw [show clOf _ _ _ _ _ _ = whatC l fo v op g from rfl, hk, thC] at hK1
  clear hk
  generalize xC l op = x at *
  generalize (findI l op.2.2.1).isSome = it at *
  generalize (findS v op.2.2.1).isSome = st at *
  generalize (findS v op.2.2.1).getD 0 = sv at *
  cases it
  all_goals
    simp only [Bool.false_and, Bool.true_and] at hK1
    have HC := Lib.hid hC1
    have HD := Lib.hid hD1
    have HK := Lib.hid hK1
    clear hC1 hD1 hK1
    go_enter Try.func32, Try.ntmps32
    go_wp2_with fail
    have hnW : New w ((w.alloc (Obj.cells (opA op) 48)).alloc (Obj.cells (gnA g) 54)) := ((New.rfl' w).alloc' _).alloc' _
    generalize hW : ((w.alloc (Obj.cells (opA op) 48)).alloc (Obj.cells (gnA g) 54)) = W at *
    have hWz0 : w.heap.size < W.heap.size := by rw [← hW]; simp only [World.size_alloc]; omega
    have hWa0 : rowAt W (w.heap.size) = opA op := by rw [← hW]; simp [go_sem]
    have hWo0 : rowOk W (w.heap.size) = true := by rw [← hW]; simp [go_sem]
    have hWz1 : w.heap.size + 1 < W.heap.size := by rw [← hW]; simp only [World.size_alloc]; omega
    have hWa1 : rowAt W (w.heap.size + 1) = gnA g := by rw [← hW]; simp [go_sem]
    have hWo1 : rowOk W (w.heap.size + 1) = true := by rw [← hW]; simp [go_sem]
    clear hW
    have hWA := fun w' (h : New W w') n hn => rowAt_below h n hn
    have hWO := fun w' (h : New W w') n hn => rowOk_below h n hn
    have hWS := fun w' (h : New W w') n (hn : n < W.heap.size) => eq_true (Nat.lt_of_lt_of_le hn h.size)
    have hl2 := hl.new hnW
    have hv2 := hv.new hnW
    go_wp2_with (first
      | (go_at_call 56; refine (cloneI_any _ _ _ l _ hl2 (by omega)).mono ?_; rintro e w1 ⟨vi, rfl, hvi, hbW⟩; obtain ⟨A1, c1, rfl, hc1, hr1⟩ := hvi.rd; have hbI := New.rfl' w1)
      | (go_at_call 57; refine (cloneS_any _ _ _ v _ (hv2.new hbW) (by omega)).mono ?_; rintro e w2 ⟨vs, rfl, hvs, hb⟩; obtain ⟨A2, c2, rfl, hc2, hr2⟩ := hvs.rd; have hvs := hvs.lower hbW.size; have hbS := New.rfl' w2; have hbW := New.call hbW hb; have hbI := New.call hbI hb; clear hb)
      | (go_at_call 21; refine (HA.out _ (hl2.new hbW) (by omega)).mono ?_; rintro e w3 ⟨rfl, hb⟩; have hbW := New.call hbW hb; have hbI := New.call hbI hb; have hbS := New.call hbS hb; clear hb)
      | (go_at_call 42; refine (HB.out _ (hv2.new hbW) (by omega)).mono ?_; rintro e w4 ⟨rfl, hb⟩; have hbW := New.call hbW hb; have hbI := New.call hbI hb; have hbS := New.call hbS hb; clear hb)
      | (go_at_call 39; refine (HD.out _ (hv2.new hbW) (by omega)).mono ?_; rintro e w5 ⟨rfl, hb⟩; have hbW := New.call hbW hb; have hbI := New.call hbI hb; have hbS := New.call hbS hb; clear hb)
      | (go_at_call 22; refine (HC.out _ (hl2.new hbW) (by omega)).mono ?_; rintro e w6 ⟨rfl, hb⟩; have hbW := New.call hbW hb; have hbI := New.call hbI hb; have hbS := New.call hbS hb; clear hb))
    have hzI := hbI.size
    have hzS := hbS.size
    have hzW := hbW.size
    have hnX : New w6 (w6.alloc (Obj.cells (itA x) 28)) := (New.rfl' w6).alloc' _
    generalize hX : (w6.alloc (Obj.cells (itA x) 28)) = X at *
    have hXz0 : w6.heap.size < X.heap.size := by rw [← hX]; simp only [World.size_alloc]; omega
    have hXa0 : rowAt X (w6.heap.size) = itA x := by rw [← hX]; simp [go_sem]
    have hXo0 : rowOk X (w6.heap.size) = true := by rw [← hX]; simp [go_sem]
    clear hX
    have hXA := fun w' (h : New X w') n hn => rowAt_below h n hn
    have hXO := fun w' (h : New X w') n hn => rowOk_below h n hn
    have hXS := fun w' (h : New X w') n (hn : n < X.heap.size) => eq_true (Nat.lt_of_lt_of_le hn h.size)
    have hbW := hbW.call hnX
    have hbI := hbI.call hnX
    have hbS := hbS.call hnX
    go_wp2_with (first
      | (go_at_call 54; refine (HK.out _).mono ?_; rintro e w7 ⟨rfl, rfl⟩))
    go_ret3
    exact ⟨_, _, rfl, (hvi.new hbI).lower hnW.size, (hvs.new hbS).lower hnW.size, hnW.call hbW⟩
set_option maxHeartbeats 1600000 in
set_option maxRecDepth 100000 in
theorem do_none1 (A : Option Addr) (n c : Nat) (l : List It) (fo : Int) (B : Option Addr) (m d : Nat) (v : List Sn) (op : Opr) (g : Gn) (sq : Int) (w : World) (hl : KI.Rd w A n l) (hv : KS.Rd w B m v) (hn : n ≤ 60) (hm : m ≤ 100) (hml : mayI l = true) (hmv : risS 0 v = true) (hk : whatC l fo v op g = 1) :
    Calls Try.prog 32 #[.slice A n c, .int .u32 fo, .slice B m d, .agg (opA op), .agg (gnA g), .int .u64 sq] w fun e w' => ∃ a b, e = .returned (.tuple #[a, b, .int .u8 1]) ∧ KI.Own w' w.heap.size a l ∧ KS.Own w' w.heap.size b v ∧ New w w' := by
  obtain rfl : l.length = n := hl.1
  obtain rfl : v.length = m := hv.1
  have hA1 := imay_any A l.length c l
  rw [hml] at hA1
  have HA := Lib.hid hA1
  clear hA1 hml
  have hB1 := vmay_any B v.length d v
  rw [hmv] at hB1
  have HB := Lib.hid hB1
  clear hB1 hmv
  have hC1 := iFind_any A l.length c l op.2.2.1
  rw [show (findI l op.2.2.1).getD itZ = xC l op from rfl] at hC1
  have hD1 := vof_any B v.length d v op.2.2.1
  have hK1 := clof_any op.1 (findS v op.2.2.1).isSome ((findS v op.2.2.1).getD 0) (thC l fo op) (xC l op).2.2.1 (gnWi g)
  rw [show clOf _ _ _ _ _ _ = whatC l fo v op g from rfl, hk, thC] at hK1
  clear hk
  generalize xC l op = x at *
  generalize (findI l op.2.2.1).isSome = it at *
  generalize (findS v op.2.2.1).isSome = st at *
  generalize (findS v op.2.2.1).getD 0 = sv at *
  cases it
  all_goals
    simp only [Bool.false_and, Bool.true_and] at hK1
    have HC := Lib.hid hC1
    have HD := Lib.hid hD1
    have HK := Lib.hid hK1
    clear hC1 hD1 hK1
    go_enter Try.func32, Try.ntmps32
    go_wp2_with fail
    have hnW : New w ((w.alloc (Obj.cells (opA op) 48)).alloc (Obj.cells (gnA g) 54)) := ((New.rfl' w).alloc' _).alloc' _
    generalize hW : ((w.alloc (Obj.cells (opA op) 48)).alloc (Obj.cells (gnA g) 54)) = W at *
    have hWz0 : w.heap.size < W.heap.size := by rw [← hW]; simp only [World.size_alloc]; omega
    have hWa0 : rowAt W (w.heap.size) = opA op := by rw [← hW]; simp [go_sem]
    have hWo0 : rowOk W (w.heap.size) = true := by rw [← hW]; simp [go_sem]
    have hWz1 : w.heap.size + 1 < W.heap.size := by rw [← hW]; simp only [World.size_alloc]; omega
    have hWa1 : rowAt W (w.heap.size + 1) = gnA g := by rw [← hW]; simp [go_sem]
    have hWo1 : rowOk W (w.heap.size + 1) = true := by rw [← hW]; simp [go_sem]
    clear hW
    have hWA := fun w' (h : New W w') n hn => rowAt_below h n hn
    have hWO := fun w' (h : New W w') n hn => rowOk_below h n hn
    have hWS := fun w' (h : New W w') n (hn : n < W.heap.size) => eq_true (Nat.lt_of_lt_of_le hn h.size)
    have hl2 := hl.new hnW
    have hv2 := hv.new hnW
    go_wp2_with (first
      | (go_at_call 56; refine (cloneI_any _ _ _ l _ hl2 (by omega)).mono ?_; rintro e w1 ⟨vi, rfl, hvi, hbW⟩; obtain ⟨A1, c1, rfl, hc1, hr1⟩ := hvi.rd; have hbI := New.rfl' w1)
      | (go_at_call 57; refine (cloneS_any _ _ _ v _ (hv2.new hbW) (by omega)).mono ?_; rintro e w2 ⟨vs, rfl, hvs, hb⟩; obtain ⟨A2, c2, rfl, hc2, hr2⟩ := hvs.rd; have hvs := hvs.lower hbW.size; have hbS := New.rfl' w2; have hbW := New.call hbW hb; have hbI := New.call hbI hb; clear hb)
      | (go_at_call 21; refine (HA.out _ (hl2.new hbW) (by omega)).mono ?_; rintro e w3 ⟨rfl, hb⟩; have hbW := New.call hbW hb; have hbI := New.call hbI hb; have hbS := New.call hbS hb; clear hb)
      | (go_at_call 42; refine (HB.out _ (hv2.new hbW) (by omega)).mono ?_; rintro e w4 ⟨rfl, hb⟩; have hbW := New.call hbW hb; have hbI := New.call hbI hb; have hbS := New.call hbS hb; clear hb)
      | (go_at_call 39; refine (HD.out _ (hv2.new hbW) (by omega)).mono ?_; rintro e w5 ⟨rfl, hb⟩; have hbW := New.call hbW hb; have hbI := New.call hbI hb; have hbS := New.call hbS hb; clear hb)
      | (go_at_call 22; refine (HC.out _ (hl2.new hbW) (by omega)).mono ?_; rintro e w6 ⟨rfl, hb⟩; have hbW := New.call hbW hb; have hbI := New.call hbI hb; have hbS := New.call hbS hb; clear hb))
    have hzI := hbI.size
    have hzS := hbS.size
    have hzW := hbW.size
    have hnX : New w6 (w6.alloc (Obj.cells (itA x) 28)) := (New.rfl' w6).alloc' _
    generalize hX : (w6.alloc (Obj.cells (itA x) 28)) = X at *
    have hXz0 : w6.heap.size < X.heap.size := by rw [← hX]; simp only [World.size_alloc]; omega
    have hXa0 : rowAt X (w6.heap.size) = itA x := by rw [← hX]; simp [go_sem]
    have hXo0 : rowOk X (w6.heap.size) = true := by rw [← hX]; simp [go_sem]
    clear hX
    have hXA := fun w' (h : New X w') n hn => rowAt_below h n hn
    have hXO := fun w' (h : New X w') n hn => rowOk_below h n hn
    have hXS := fun w' (h : New X w') n (hn : n < X.heap.size) => eq_true (Nat.lt_of_lt_of_le hn h.size)
    have hbW := hbW.call hnX
    have hbI := hbI.call hnX
    have hbS := hbS.call hnX
    go_wp2_with (first
      | (go_at_call 54; refine (HK.out _).mono ?_; rintro e w7 ⟨rfl, rfl⟩))
    go_ret3
    exact ⟨_, _, rfl, (hvi.new hbI).lower hnW.size, (hvs.new hbS).lower hnW.size, hnW.call hbW⟩
set_option maxHeartbeats 1600000 in
set_option maxRecDepth 100000 in
theorem do_none4 (A : Option Addr) (n c : Nat) (l : List It) (fo : Int) (B : Option Addr) (m d : Nat) (v : List Sn) (op : Opr) (g : Gn) (sq : Int) (w : World) (hl : KI.Rd w A n l) (hv : KS.Rd w B m v) (hn : n ≤ 60) (hm : m ≤ 100) (hml : mayI l = true) (hmv : risS 0 v = true) (hk : whatC l fo v op g = 4) :
    Calls Try.prog 32 #[.slice A n c, .int .u32 fo, .slice B m d, .agg (opA op), .agg (gnA g), .int .u64 sq] w fun e w' => ∃ a b, e = .returned (.tuple #[a, b, .int .u8 4]) ∧ KI.Own w' w.heap.size a l ∧ KS.Own w' w.heap.size b v ∧ New w w' := by
  obtain rfl : l.length = n := hl.1
  obtain rfl : v.length = m := hv.1
  have hA1 := imay_any A l.length c l
  rw [hml] at hA1
  have HA := Lib.hid hA1
  clear hA1 hml
  have hB1 := vmay_any B v.length d v
  rw [hmv] at hB1
  have HB := Lib.hid hB1
  clear hB1 hmv
  have hC1 := iFind_any A l.length c l op.2.2.1
  rw [show (findI l op.2.2.1).getD itZ = xC l op from rfl] at hC1
  have hD1 := vof_any B v.length d v op.2.2.1
  have hK1 := clof_any op.1 (findS v op.2.2.1).isSome ((findS v op.2.2.1).getD 0) (thC l fo op) (xC l op).2.2.1 (gnWi g)
  rw [show clOf _ _ _ _ _ _ = whatC l fo v op g from rfl, hk, thC] at hK1
  clear hk
  generalize xC l op = x at *
  generalize (findI l op.2.2.1).isSome = it at *
  generalize (findS v op.2.2.1).isSome = st at *
  generalize (findS v op.2.2.1).getD 0 = sv at *
  cases it
  all_goals
    simp only [Bool.false_and, Bool.true_and] at hK1
    have HC := Lib.hid hC1
    have HD := Lib.hid hD1
    have HK := Lib.hid hK1
    clear hC1 hD1 hK1
    go_enter Try.func32, Try.ntmps32
    go_wp2_with fail
    have hnW : New w ((w.alloc (Obj.cells (opA op) 48)).alloc (Obj.cells (gnA g) 54)) := ((New.rfl' w).alloc' _).alloc' _
    generalize hW : ((w.alloc (Obj.cells (opA op) 48)).alloc (Obj.cells (gnA g) 54)) = W at *
    have hWz0 : w.heap.size < W.heap.size := by rw [← hW]; simp only [World.size_alloc]; omega
    have hWa0 : rowAt W (w.heap.size) = opA op := by rw [← hW]; simp [go_sem]
    have hWo0 : rowOk W (w.heap.size) = true := by rw [← hW]; simp [go_sem]
    have hWz1 : w.heap.size + 1 < W.heap.size := by rw [← hW]; simp only [World.size_alloc]; omega
    have hWa1 : rowAt W (w.heap.size + 1) = gnA g := by rw [← hW]; simp [go_sem]
    have hWo1 : rowOk W (w.heap.size + 1) = true := by rw [← hW]; simp [go_sem]
    clear hW
    have hWA := fun w' (h : New W w') n hn => rowAt_below h n hn
    have hWO := fun w' (h : New W w') n hn => rowOk_below h n hn
    have hWS := fun w' (h : New W w') n (hn : n < W.heap.size) => eq_true (Nat.lt_of_lt_of_le hn h.size)
    have hl2 := hl.new hnW
    have hv2 := hv.new hnW
    go_wp2_with (first
      | (go_at_call 56; refine (cloneI_any _ _ _ l _ hl2 (by omega)).mono ?_; rintro e w1 ⟨vi, rfl, hvi, hbW⟩; obtain ⟨A1, c1, rfl, hc1, hr1⟩ := hvi.rd; have hbI := New.rfl' w1)
      | (go_at_call 57; refine (cloneS_any _ _ _ v _ (hv2.new hbW) (by omega)).mono ?_; rintro e w2 ⟨vs, rfl, hvs, hb⟩; obtain ⟨A2, c2, rfl, hc2, hr2⟩ := hvs.rd; have hvs := hvs.lower hbW.size; have hbS := New.rfl' w2; have hbW := New.call hbW hb; have hbI := New.call hbI hb; clear hb)
      | (go_at_call 21; refine (HA.out _ (hl2.new hbW) (by omega)).mono ?_; rintro e w3 ⟨rfl, hb⟩; have hbW := New.call hbW hb; have hbI := New.call hbI hb; have hbS := New.call hbS hb; clear hb)
      | (go_at_call 42; refine (HB.out _ (hv2.new hbW) (by omega)).mono ?_; rintro e w4 ⟨rfl, hb⟩; have hbW := New.call hbW hb; have hbI := New.call hbI hb; have hbS := New.call hbS hb; clear hb)
      | (go_at_call 39; refine (HD.out _ (hv2.new hbW) (by omega)).mono ?_; rintro e w5 ⟨rfl, hb⟩; have hbW := New.call hbW hb; have hbI := New.call hbI hb; have hbS := New.call hbS hb; clear hb)
      | (go_at_call 22; refine (HC.out _ (hl2.new hbW) (by omega)).mono ?_; rintro e w6 ⟨rfl, hb⟩; have hbW := New.call hbW hb; have hbI := New.call hbI hb; have hbS := New.call hbS hb; clear hb))
    have hzI := hbI.size
    have hzS := hbS.size
    have hzW := hbW.size
    have hnX : New w6 (w6.alloc (Obj.cells (itA x) 28)) := (New.rfl' w6).alloc' _
    generalize hX : (w6.alloc (Obj.cells (itA x) 28)) = X at *
    have hXz0 : w6.heap.size < X.heap.size := by rw [← hX]; simp only [World.size_alloc]; omega
    have hXa0 : rowAt X (w6.heap.size) = itA x := by rw [← hX]; simp [go_sem]
    have hXo0 : rowOk X (w6.heap.size) = true := by rw [← hX]; simp [go_sem]
    clear hX
    have hXA := fun w' (h : New X w') n hn => rowAt_below h n hn
    have hXO := fun w' (h : New X w') n hn => rowOk_below h n hn
    have hXS := fun w' (h : New X w') n (hn : n < X.heap.size) => eq_true (Nat.lt_of_lt_of_le hn h.size)
    have hbW := hbW.call hnX
    have hbI := hbI.call hnX
    have hbS := hbS.call hnX
    go_wp2_with (first
      | (go_at_call 54; refine (HK.out _).mono ?_; rintro e w7 ⟨rfl, rfl⟩))
    go_ret3
    exact ⟨_, _, rfl, (hvi.new hbI).lower hnW.size, (hvs.new hbS).lower hnW.size, hnW.call hbW⟩
set_option maxHeartbeats 1600000 in
set_option maxRecDepth 100000 in
theorem do_fet2 (A : Option Addr) (n c : Nat) (l : List It) (fo : Int) (B : Option Addr) (m d : Nat) (v : List Sn) (op : Opr) (g : Gn) (sq : Int) (w : World) (hl : KI.Rd w A n l) (hv : KS.Rd w B m v) (hn : n ≤ 60) (hm : m ≤ 100) (hml : mayI l = true) (hmv : risS 0 v = true) (hk : whatC l fo v op g = 2) (h1 : op.1 = 4) :
    Calls Try.prog 32 #[.slice A n c, .int .u32 fo, .slice B m d, .agg (opA op), .agg (gnA g), .int .u64 sq] w fun e w' => ∃ a b, e = .returned (.tuple #[a, b, .int .u8 2]) ∧ KI.Own w' w.heap.size a l ∧ KS.Own w' w.heap.size b v ∧ New w w' := by
  obtain rfl : l.length = n := hl.1
  obtain rfl : v.length = m := hv.1
  have hA1 := imay_any A l.length c l
  rw [hml] at hA1
  have HA := Lib.hid hA1
  clear hA1 hml
  have hB1 := vmay_any B v.length d v
  rw [hmv] at hB1
  have HB := Lib.hid hB1
  clear hB1 hmv
  have hC1 := iFind_any A l.length c l op.2.2.1
  rw [show (findI l op.2.2.1).getD itZ = xC l op from rfl] at hC1
  have hD1 := vof_any B v.length d v op.2.2.1
  have hK1 := clof_any op.1 (findS v op.2.2.1).isSome ((findS v op.2.2.1).getD 0) (thC l fo op) (xC l op).2.2.1 (gnWi g)
  rw [show clOf _ _ _ _ _ _ = whatC l fo v op g from rfl, hk, thC, h1] at hK1
  have hw1 : op.1 = 4 := h1
  clear hk
  generalize xC l op = x at *
  generalize (findI l op.2.2.1).isSome = it at *
  generalize (findS v op.2.2.1).isSome = st at *
  generalize (findS v op.2.2.1).getD 0 = sv at *
  cases it
  all_goals
    simp only [Bool.false_and, Bool.true_and] at hK1
    have HC := Lib.hid hC1
    have HD := Lib.hid hD1
    have HK := Lib.hid hK1
    clear hC1 hD1 hK1
    go_enter Try.func32, Try.ntmps32
    go_wp2_with fail
    have hnW : New w ((w.alloc (Obj.cells (opA op) 48)).alloc (Obj.cells (gnA g) 54)) := ((New.rfl' w).alloc' _).alloc' _
    generalize hW : ((w.alloc (Obj.cells (opA op) 48)).alloc (Obj.cells (gnA g) 54)) = W at *
    have hWz0 : w.heap.size < W.heap.size := by rw [← hW]; simp only [World.size_alloc]; omega
    have hWa0 : rowAt W (w.heap.size) = opA op := by rw [← hW]; simp [go_sem]
    have hWo0 : rowOk W (w.heap.size) = true := by rw [← hW]; simp [go_sem]
    have hWz1 : w.heap.size + 1 < W.heap.size := by rw [← hW]; simp only [World.size_alloc]; omega
    have hWa1 : rowAt W (w.heap.size + 1) = gnA g := by rw [← hW]; simp [go_sem]
    have hWo1 : rowOk W (w.heap.size + 1) = true := by rw [← hW]; simp [go_sem]
    clear hW
    have hWA := fun w' (h : New W w') n hn => rowAt_below h n hn
    have hWO := fun w' (h : New W w') n hn => rowOk_below h n hn
    have hWS := fun w' (h : New W w') n (hn : n < W.heap.size) => eq_true (Nat.lt_of_lt_of_le hn h.size)
    have hl2 := hl.new hnW
    have hv2 := hv.new hnW
    go_wp2_with (first
      | (go_at_call 56; refine (cloneI_any _ _ _ l _ hl2 (by omega)).mono ?_; rintro e w1 ⟨vi, rfl, hvi, hbW⟩; obtain ⟨A1, c1, rfl, hc1, hr1⟩ := hvi.rd; have hbI := New.rfl' w1)
      | (go_at_call 57; refine (cloneS_any _ _ _ v _ (hv2.new hbW) (by omega)).mono ?_; rintro e w2 ⟨vs, rfl, hvs, hb⟩; obtain ⟨A2, c2, rfl, hc2, hr2⟩ := hvs.rd; have hvs := hvs.lower hbW.size; have hbS := New.rfl' w2; have hbW := New.call hbW hb; have hbI := New.call hbI hb; clear hb)
      | (go_at_call 21; refine (HA.out _ (hl2.new hbW) (by omega)).mono ?_; rintro e w3 ⟨rfl, hb⟩; have hbW := New.call hbW hb; have hbI := New.call hbI hb; have hbS := New.call hbS hb; clear hb)
      | (go_at_call 42; refine (HB.out _ (hv2.new hbW) (by omega)).mono ?_; rintro e w4 ⟨rfl, hb⟩; have hbW := New.call hbW hb; have hbI := New.call hbI hb; have hbS := New.call hbS hb; clear hb)
      | (go_at_call 39; refine (HD.out _ (hv2.new hbW) (by omega)).mono ?_; rintro e w5 ⟨rfl, hb⟩; have hbW := New.call hbW hb; have hbI := New.call hbI hb; have hbS := New.call hbS hb; clear hb)
      | (go_at_call 22; refine (HC.out _ (hl2.new hbW) (by omega)).mono ?_; rintro e w6 ⟨rfl, hb⟩; have hbW := New.call hbW hb; have hbI := New.call hbI hb; have hbS := New.call hbS hb; clear hb))
    have hzI := hbI.size
    have hzS := hbS.size
    have hzW := hbW.size
    have hnX : New w6 (w6.alloc (Obj.cells (itA x) 28)) := (New.rfl' w6).alloc' _
    generalize hX : (w6.alloc (Obj.cells (itA x) 28)) = X at *
    have hXz0 : w6.heap.size < X.heap.size := by rw [← hX]; simp only [World.size_alloc]; omega
    have hXa0 : rowAt X (w6.heap.size) = itA x := by rw [← hX]; simp [go_sem]
    have hXo0 : rowOk X (w6.heap.size) = true := by rw [← hX]; simp [go_sem]
    clear hX
    have hXA := fun w' (h : New X w') n hn => rowAt_below h n hn
    have hXO := fun w' (h : New X w') n hn => rowOk_below h n hn
    have hXS := fun w' (h : New X w') n (hn : n < X.heap.size) => eq_true (Nat.lt_of_lt_of_le hn h.size)
    have hbW := hbW.call hnX
    have hbI := hbI.call hnX
    have hbS := hbS.call hnX
    go_wp2_with (first
      | (go_at_call 54; refine (HK.out _).mono ?_; rintro e w7 ⟨rfl, rfl⟩))
    go_ret3
    exact ⟨_, _, rfl, (hvi.new hbI).lower hnW.size, (hvs.new hbS).lower hnW.size, hnW.call hbW⟩
set_option maxHeartbeats 1600000 in
set_option maxRecDepth 100000 in
theorem do_fet3 (A : Option Addr) (n c : Nat) (l : List It) (fo : Int) (B : Option Addr) (m d : Nat) (v : List Sn) (op : Opr) (g : Gn) (sq : Int) (w : World) (hl : KI.Rd w A n l) (hv : KS.Rd w B m v) (hn : n ≤ 60) (hm : m ≤ 100) (hml : mayI l = true) (hmv : risS 0 v = true) (hk : whatC l fo v op g = 3) (h1 : op.1 = 4) :
    Calls Try.prog 32 #[.slice A n c, .int .u32 fo, .slice B m d, .agg (opA op), .agg (gnA g), .int .u64 sq] w fun e w' => ∃ a b, e = .returned (.tuple #[a, b, .int .u8 3]) ∧ KI.Own w' w.heap.size a l ∧ KS.Own w' w.heap.size b v ∧ New w w' := by
  obtain rfl : l.length = n := hl.1
  obtain rfl : v.length = m := hv.1
  have hA1 := imay_any A l.length c l
  rw [hml] at hA1
  have HA := Lib.hid hA1
  clear hA1 hml
  have hB1 := vmay_any B v.length d v
  rw [hmv] at hB1
  have HB := Lib.hid hB1
  clear hB1 hmv
  have hC1 := iFind_any A l.length c l op.2.2.1
  rw [show (findI l op.2.2.1).getD itZ = xC l op from rfl] at hC1
  have hD1 := vof_any B v.length d v op.2.2.1
  have hK1 := clof_any op.1 (findS v op.2.2.1).isSome ((findS v op.2.2.1).getD 0) (thC l fo op) (xC l op).2.2.1 (gnWi g)
  rw [show clOf _ _ _ _ _ _ = whatC l fo v op g from rfl, hk, thC, h1] at hK1
  have hw1 : op.1 = 4 := h1
  clear hk
  generalize xC l op = x at *
  generalize (findI l op.2.2.1).isSome = it at *
  generalize (findS v op.2.2.1).isSome = st at *
  generalize (findS v op.2.2.1).getD 0 = sv at *
  cases it
  all_goals
    simp only [Bool.false_and, Bool.true_and] at hK1
    have HC := Lib.hid hC1
    have HD := Lib.hid hD1
    have HK := Lib.hid hK1
    clear hC1 hD1 hK1
    go_enter Try.func32, Try.ntmps32
    go_wp2_with fail
    have hnW : New w ((w.alloc (Obj.cells (opA op) 48)).alloc (Obj.cells (gnA g) 54)) := ((New.rfl' w).alloc' _).alloc' _
    generalize hW : ((w.alloc (Obj.cells (opA op) 48)).alloc (Obj.cells (gnA g) 54)) = W at *
    have hWz0 : w.heap.size < W.heap.size := by rw [← hW]; simp only [World.size_alloc]; omega
    have hWa0 : rowAt W (w.heap.size) = opA op := by rw [← hW]; simp [go_sem]
    have hWo0 : rowOk W (w.heap.size) = true := by rw [← hW]; simp [go_sem]
    have hWz1 : w.heap.size + 1 < W.heap.size := by rw [← hW]; simp only [World.size_alloc]; omega
    have hWa1 : rowAt W (w.heap.size + 1) = gnA g := by rw [← hW]; simp [go_sem]
    have hWo1 : rowOk W (w.heap.size + 1) = true := by rw [← hW]; simp [go_sem]
    clear hW
    have hWA := fun w' (h : New W w') n hn => rowAt_below h n hn
    have hWO := fun w' (h : New W w') n hn => rowOk_below h n hn
    have hWS := fun w' (h : New W w') n (hn : n < W.heap.size) => eq_true (Nat.lt_of_lt_of_le hn h.size)
    have hl2 := hl.new hnW
    have hv2 := hv.new hnW
    go_wp2_with (first
      | (go_at_call 56; refine (cloneI_any _ _ _ l _ hl2 (by omega)).mono ?_; rintro e w1 ⟨vi, rfl, hvi, hbW⟩; obtain ⟨A1, c1, rfl, hc1, hr1⟩ := hvi.rd; have hbI := New.rfl' w1)
      | (go_at_call 57; refine (cloneS_any _ _ _ v _ (hv2.new hbW) (by omega)).mono ?_; rintro e w2 ⟨vs, rfl, hvs, hb⟩; obtain ⟨A2, c2, rfl, hc2, hr2⟩ := hvs.rd; have hvs := hvs.lower hbW.size; have hbS := New.rfl' w2; have hbW := New.call hbW hb; have hbI := New.call hbI hb; clear hb)
      | (go_at_call 21; refine (HA.out _ (hl2.new hbW) (by omega)).mono ?_; rintro e w3 ⟨rfl, hb⟩; have hbW := New.call hbW hb; have hbI := New.call hbI hb; have hbS := New.call hbS hb; clear hb)
      | (go_at_call 42; refine (HB.out _ (hv2.new hbW) (by omega)).mono ?_; rintro e w4 ⟨rfl, hb⟩; have hbW := New.call hbW hb; have hbI := New.call hbI hb; have hbS := New.call hbS hb; clear hb)
      | (go_at_call 39; refine (HD.out _ (hv2.new hbW) (by omega)).mono ?_; rintro e w5 ⟨rfl, hb⟩; have hbW := New.call hbW hb; have hbI := New.call hbI hb; have hbS := New.call hbS hb; clear hb)
      | (go_at_call 22; refine (HC.out _ (hl2.new hbW) (by omega)).mono ?_; rintro e w6 ⟨rfl, hb⟩; have hbW := New.call hbW hb; have hbI := New.call hbI hb; have hbS := New.call hbS hb; clear hb))
    have hzI := hbI.size
    have hzS := hbS.size
    have hzW := hbW.size
    have hnX : New w6 (w6.alloc (Obj.cells (itA x) 28)) := (New.rfl' w6).alloc' _
    generalize hX : (w6.alloc (Obj.cells (itA x) 28)) = X at *
    have hXz0 : w6.heap.size < X.heap.size := by rw [← hX]; simp only [World.size_alloc]; omega
    have hXa0 : rowAt X (w6.heap.size) = itA x := by rw [← hX]; simp [go_sem]
    have hXo0 : rowOk X (w6.heap.size) = true := by rw [← hX]; simp [go_sem]
    clear hX
    have hXA := fun w' (h : New X w') n hn => rowAt_below h n hn
    have hXO := fun w' (h : New X w') n hn => rowOk_below h n hn
    have hXS := fun w' (h : New X w') n (hn : n < X.heap.size) => eq_true (Nat.lt_of_lt_of_le hn h.size)
    have hbW := hbW.call hnX
    have hbI := hbI.call hnX
    have hbS := hbS.call hnX
    go_wp2_with (first
      | (go_at_call 54; refine (HK.out _).mono ?_; rintro e w7 ⟨rfl, rfl⟩))
    go_ret3
    exact ⟨_, _, rfl, (hvi.new hbI).lower hnW.size, (hvs.new hbS).lower hnW.size, hnW.call hbW⟩
theorem clof_range (kind : Int) (seen : Bool) (was : Int) (there : Bool) (now wins : Int) :
    clOf kind seen was there now wins = 0 ∨ clOf kind seen was there now wins = 1 ∨ clOf kind seen was there now wins = 2 ∨ clOf kind seen was there now wins = 3 ∨ clOf kind seen was there now wins = 4 ∨ clOf kind seen was there now wins = 5 := by
  unfold clOf; repeat' split
  all_goals simp
theorem clof_kind (kind : Int) (seen : Bool) (was : Int) (there : Bool) (now wins : Int) (h : clOf kind seen was there now wins ≠ 0) : kind = 2 ∨ kind = 3 ∨ kind = 4 := by
  unfold clOf at h
  split at h
  · exact absurd rfl h
  · omega
theorem do_any (A : Option Addr) (n c : Nat) (l : List It) (fo : Int) (B : Option Addr) (m d : Nat) (v : List Sn) (op : Opr) (g : Gn) (sq : Int) (w : World) (hl : KI.Rd w A n l) (hv : KS.Rd w B m v) (hn : n ≤ 60) (hm : m ≤ 100) (g0 : 0 ≤ op.2.2.2.1) (g1 : op.2.2.2.1 < 256) (s0 : 0 ≤ gnSu g) (s1 : gnSu g < 256) :
    Calls Try.prog 32 #[.slice A n c, .int .u32 fo, .slice B m d, .agg (opA op), .agg (gnA g), .int .u64 sq] w fun e w' => ∃ a b, e = .returned (.tuple #[a, b, .int .u8 (doC l fo v op g sq).2.2]) ∧ KI.Own w' w.heap.size a (doC l fo v op g sq).1 ∧ KS.Own w' w.heap.size b (doC l fo v op g sq).2.1 ∧ New w w' := by
  unfold doC
  cases hml : mayI l
  · simpa using do_bad1 A n c l fo B m d v op g sq w hl hv hn hm hml
  cases hmv : risS 0 v
  · simpa using do_bad2 A n c l fo B m d v op g sq w hl hv hn hm hml hmv
  rcases clof_range op.1 (findS v op.2.2.1).isSome ((findS v op.2.2.1).getD 0) (thC l fo op) (xC l op).2.2.1 (gnWi g) with hk | hk | hk | hk | hk | hk
  · have hk : whatC l fo v op g = 0 := hk
    simpa [hk] using do_none0 A n c l fo B m d v op g sq w hl hv hn hm hml hmv hk
  · have hk : whatC l fo v op g = 1 := hk
    simpa [hk] using do_none1 A n c l fo B m d v op g sq w hl hv hn hm hml hmv hk
  · have hk : whatC l fo v op g = 2 := hk
    rcases clof_kind _ _ _ _ _ _ (show clOf op.1 (findS v op.2.2.1).isSome ((findS v op.2.2.1).getD 0) (thC l fo op) (xC l op).2.2.1 (gnWi g) ≠ 0 by rw [show clOf _ _ _ _ _ _ = whatC l fo v op g from rfl, hk]; decide) with h1 | h1 | h1
    · simpa [hk, h1] using do_chg2 A n c l fo B m d v op g sq w hl hv hn hm hml hmv hk h1 g0 g1 s0 s1
    · simpa [hk, h1] using do_del2 A n c l fo B m d v op g sq w hl hv hn hm hml hmv hk h1
    · simpa [hk, h1] using do_fet2 A n c l fo B m d v op g sq w hl hv hn hm hml hmv hk h1
  · have hk : whatC l fo v op g = 3 := hk
    rcases clof_kind _ _ _ _ _ _ (show clOf op.1 (findS v op.2.2.1).isSome ((findS v op.2.2.1).getD 0) (thC l fo op) (xC l op).2.2.1 (gnWi g) ≠ 0 by rw [show clOf _ _ _ _ _ _ = whatC l fo v op g from rfl, hk]; decide) with h1 | h1 | h1
    · simpa [hk, h1] using do_chg3 A n c l fo B m d v op g sq w hl hv hn hm hml hmv hk h1 g0 g1 s0 s1
    · simpa [hk, h1] using do_del3 A n c l fo B m d v op g sq w hl hv hn hm hml hmv hk h1
    · simpa [hk, h1] using do_fet3 A n c l fo B m d v op g sq w hl hv hn hm hml hmv hk h1
  · have hk : whatC l fo v op g = 4 := hk
    simpa [hk] using do_none4 A n c l fo B m d v op g sq w hl hv hn hm hml hmv hk
  · have hk : whatC l fo v op g = 5 := hk
    simpa [hk] using do_gone A n c l fo B m d v op g sq w hl hv hn hm hml hmv hk
end Go.Proofs.Ytkgebhmlogddcaa
