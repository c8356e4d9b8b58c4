/- The law ClashTold, walked. -/
import Derived.Test.YtkgebhmlogddcaaTold1
import Derived.Test.YtkgebhmlogddcaaItemRef3
namespace Go.Proofs.Ytkgebhmlogddcaa
open Go.RowKit
set_option linter.unusedSimpArgs false
attribute [local go_sem] rowAt_alloc_at rowAt_alloc_past rowOk_alloc_at rowOk_alloc_past rowAt_drew rowOk_drew setRow_alloc_at setRow_alloc_past rowAt_setRow rowAt_setRow_far rowOk_setRow cell_rowOk frozen_rowOk setCell_rowOk setRow_setRow con_fold con_get con_size con_set set_all none8_cells equalIn_con storeCells_con
attribute [local go_sem] it_size it_0 it_1 it_2 it_3 it_4 it_5 it_6 it_7 it_8 it_9 it_10 it_set0 it_set1 it_set2 it_fold it_zero it_eta it_fill run_storeCells_it
attribute [local go_sem] sn_size sn_0 sn_1 sn_set0 sn_set1 sn_fold sn_eta sn_fill run_storeCells_sn eqg_sn eqg_it
attribute [local go_sem high] equalIn_sn equalIn_it
attribute [local go_sem] op_size op_0 op_1 op_2 op_3 op_4 op_5 op_6 op_7 op_8 op_9 op_10 op_11 op_con op_fold op_eta run_storeCells_op gn_size gn_0 gn_1 gn_2 gn_3 gn_4 gn_5 gn_6 gn_7 gn_8 gn_9 gn_10 gn_fold

/-! ### what is done: its sizes -/
theorem may_pos {l : List It} (h : mayI l = true) : PosI l := fun x hx => Int.le_of_lt (((ris_pw l 0).1 (risI_of l h)).1 x hx).1
theorem ris_pos {v : List Sn} (h : risS 0 v = true) : PosS v := fun x hx => Int.le_of_lt (((sris_pw v 0).1 h).1 x hx)
theorem change_may {l : List It} (y : It) (hm : mayI l = true) : mayI (changeI l y).1 = true := by
  unfold changeI
  rw [hm]
  cases h2 : (y.2.1 == 0)
  · cases h3 : hasI l y.1
    · rfl
    · exact (chg_back2 hm h3 (by simpa using h2)).1
  · rfl
theorem drop_may {l : List It} (id : Int) (hm : mayI l = true) : mayI (dropI l id).1 = true := by
  unfold dropI
  rw [hm]
  cases h3 : hasI l id
  · rfl
  · exact (drp_back2 hm h3).1
theorem set_may {v : List Sn} (id s : Int) (h : risS 0 v = true) (h0 : 0 ≤ id) : risS 0 (setS v id s) = true := by
  by_cases e : id = 0
  · rw [setS, if_pos h, if_pos e]; exact h
  · exact (set_mem s h (by omega)).1
theorem set_len (v : List Sn) (id s : Int) : (setS v id s).length ≤ v.length + 1 := by
  have := posS_le v id
  unfold setS
  repeat' split
  all_goals simp
  omega
theorem drop_len (v : List Sn) (id : Int) : (dropS v id).length ≤ v.length + 1 := by
  unfold dropS
  split
  · have := List.length_filter_le (fun x : Sn => x.1 != id) v; omega
  · simp
theorem do_may (l : List It) (fo : Int) (v : List Sn) (op : Opr) (g : Gn) (sq : Int) (hml : mayI l = true) (hmv : risS 0 v = true) (h0 : 0 ≤ op.2.2.1) :
    mayI (doC l fo v op g sq).1 = true ∧ risS 0 (doC l fo v op g sq).2.1 = true ∧ (doC l fo v op g sq).2.1.length ≤ v.length + 1 := by
  rw [doC, if_pos ⟨hml, hmv⟩]
  repeat' split
  · exact ⟨hml, (drop_mem hmv _).1, drop_len _ _⟩
  · exact ⟨drop_may _ hml, (drop_mem hmv _).1, drop_len _ _⟩
  · exact ⟨change_may _ hml, set_may _ _ hmv h0, set_len _ _ _⟩
  · exact ⟨change_may _ hml, hmv, by simp⟩
  · exact ⟨hml, hmv, by simp⟩
theorem refsame_t (A : Option Addr) (n c : Nat) (a : List It) (B : Option Addr) (m d : Nat) (b : List It) (w : World) (ha : KI.Rd w A n a) (hb : KI.Rd w B m b) (hn : n ≤ 140737488355328) (hm : m ≤ 140737488355328) (h : a = b) :
    Calls Try.prog 18 #[.slice A n c, .slice B m d] w fun e w' => e = .returned (.bool true) ∧ New w w' := by
  have := refsame_any A n c a B m d b w ha hb hn hm
  rwa [decide_eq_true h] at this
theorem rvsame_t (A : Option Addr) (n c : Nat) (a : List Sn) (B : Option Addr) (m d : Nat) (b : List Sn) (w : World) (ha : KS.Rd w A n a) (hb : KS.Rd w B m b) (hn : n ≤ 140737488355328) (hm : m ≤ 140737488355328) (h : a = b) :
    Calls Try.prog 34 #[.slice A n c, .slice B m d] w fun e w' => e = .returned (.bool true) ∧ New w w' := by
  have := rvsame_any A n c a B m d b w ha hb hn hm
  rwa [decide_eq_true h] at this
theorem rvfind_t (A : Option Addr) (n c : Nat) (l : List It) (id : Int) (x : It) (w : World) (hl : KI.Rd w A n l) (hn : n ≤ 140737488355328) (hP : PosI l) (h : findI l id = some x) :
    Calls Try.prog 24 #[.slice A n c, .int .u32 id] w fun e w' => e = .returned (.tuple #[.agg (itA x), .bool true]) ∧ New w w' := by
  have := reffind_any A n c l id w hl hn hP
  rwa [h] at this
theorem pending_t (B : Option Addr) (m d : Nat) (v : List Sn) (A : Option Addr) (n c : Nat) (l : List It) (fo id : Int) (b : Bool) (w : World) (hv : KS.Rd w B m v) (hl : KI.Rd w A n l) (hm : m ≤ 1000) (hn : n ≤ 1000) (hPv : PosS v) (hPl : PosI l) (h : pendB v l fo id = b) :
    Calls Try.prog 36 #[.slice B m d, .slice A n c, .int .u32 fo, .int .u32 id] w fun e w' => e = .returned (.bool b) ∧ New w w' := by
  have := pending_any B m d v A n c l fo id w hv hl hm hn hPv hPl
  rwa [h] at this

theorem rvfind_n (A : Option Addr) (n c : Nat) (l : List It) (id : Int) (w : World) (hl : KI.Rd w A n l) (hn : n ≤ 140737488355328) (hP : PosI l) (h : findI l id = none) :
    Calls Try.prog 24 #[.slice A n c, .int .u32 id] w fun e w' => e = .returned (.tuple #[.agg (itA itZ), .bool false]) ∧ New w w' := by
  have := reffind_any A n c l id w hl hn hP
  rwa [h] at this
theorem do_range (l : List It) (fo : Int) (v : List Sn) (op : Opr) (g : Gn) (sq : Int) : (doC l fo v op g sq).2.2 = 0 ∨ (doC l fo v op g sq).2.2 = 1 ∨ (doC l fo v op g sq).2.2 = 2 ∨ (doC l fo v op g sq).2.2 = 3 ∨ (doC l fo v op g sq).2.2 = 4 ∨ (doC l fo v op g sq).2.2 = 5 := by
  have h := clof_range op.1 (findS v op.2.2.1).isSome ((findS v op.2.2.1).getD 0) (thC l fo op) (xC l op).2.2.1 (gnWi g)
  have hw : whatC l fo v op g = clOf op.1 (findS v op.2.2.1).isSome ((findS v op.2.2.1).getD 0) (thC l fo op) (xC l op).2.2.1 (gnWi g) := rfl
  rw [← hw] at h
  unfold doC
  repeat' split
  · exact .inr (.inr (.inr (.inr (.inr rfl))))
  · exact h
  · exact h
  · exact h
  · exact h
  · exact .inl rfl

/-! ### the ways -/

set_option maxHeartbeats 3200000 in
set_option maxRecDepth 100000 in
theorem told_great1 (A : Option Addr) (n c : Nat) (l : List It) (fo : Int) (B : Option Addr) (m d : Nat) (v : List Sn) (op : Opr) (g : Gn) (sq : Int) (w : World) (hl : KI.Rd w A n l) (hv : KS.Rd w B m v) (h : 60 < n) :
    Calls Try.prog 7 #[.slice A n c, .int .u32 fo, .slice B m d, .agg (opA op), .agg (gnA g), .int .u64 sq] w fun e w' => e = .returned (.bool true) ∧ New w w' := by
  have hg : decide (60 < n) = true := by simpa using h
  have hln := hl.1
  have hvm := hv.1
  go_enter Try.func7, Try.ntmps7
  go_wp2_with fail
  have hnW : New w ((w.alloc (Obj.cells (opA op) 48)).alloc (Obj.cells (gnA g) 54)) := ((New.rfl' w).alloc' _).alloc' _
  generalize hW : ((w.alloc (Obj.cells (opA op) 48)).alloc (Obj.cells (gnA g) 54)) = W at *
  have hWz0 : w.heap.size < W.heap.size := by rw [← hW]; simp only [World.size_alloc]; omega
  have hWa0 : rowAt W (w.heap.size) = opA op := by rw [← hW]; simp [go_sem]
  have hWo0 : rowOk W (w.heap.size) = true := by rw [← hW]; simp [go_sem]
  have hWz1 : w.heap.size + 1 < W.heap.size := by rw [← hW]; simp only [World.size_alloc]; omega
  have hWa1 : rowAt W (w.heap.size + 1) = gnA g := by rw [← hW]; simp [go_sem]
  have hWo1 : rowOk W (w.heap.size + 1) = true := by rw [← hW]; simp [go_sem]
  clear hW
  have hWA := fun w' (h : New W w') n hn => rowAt_below h n hn
  have hWO := fun w' (h : New W w') n hn => rowOk_below h n hn
  have hWS := fun w' (h : New W w') n (hn : n < W.heap.size) => eq_true (Nat.lt_of_lt_of_le hn h.size)
  have hl2 := hl.new hnW
  have hv2 := hv.new hnW
  have hW := New.rfl' W
  go_wp2_with (first
    | (go_at_call 28; refine (great21 _ _ _ _ _ _ _).mono ?_; rintro e w1 ⟨rfl, rfl⟩)
    | (go_at_call 30; refine (lives21 _).mono ?_; rintro e w2 ⟨rfl, rfl⟩))
  go_ret
  exact ⟨rfl, hnW.call hW⟩
set_option maxHeartbeats 3200000 in
set_option maxRecDepth 100000 in
theorem told_great2 (A : Option Addr) (n c : Nat) (l : List It) (fo : Int) (B : Option Addr) (m d : Nat) (v : List Sn) (op : Opr) (g : Gn) (sq : Int) (w : World) (hl : KI.Rd w A n l) (hv : KS.Rd w B m v) (h0 : ¬ 60 < n) (h : 100 < m) :
    Calls Try.prog 7 #[.slice A n c, .int .u32 fo, .slice B m d, .agg (opA op), .agg (gnA g), .int .u64 sq] w fun e w' => e = .returned (.bool true) ∧ New w w' := by
  have hg0 : decide (60 < n) = false := by simpa using h0
  have hg : decide (100 < m) = true := by simpa using h
  have hln := hl.1
  have hvm := hv.1
  go_enter Try.func7, Try.ntmps7
  go_wp2_with fail
  have hnW : New w ((w.alloc (Obj.cells (opA op) 48)).alloc (Obj.cells (gnA g) 54)) := ((New.rfl' w).alloc' _).alloc' _
  generalize hW : ((w.alloc (Obj.cells (opA op) 48)).alloc (Obj.cells (gnA g) 54)) = W at *
  have hWz0 : w.heap.size < W.heap.size := by rw [← hW]; simp only [World.size_alloc]; omega
  have hWa0 : rowAt W (w.heap.size) = opA op := by rw [← hW]; simp [go_sem]
  have hWo0 : rowOk W (w.heap.size) = true := by rw [← hW]; simp [go_sem]
  have hWz1 : w.heap.size + 1 < W.heap.size := by rw [← hW]; simp only [World.size_alloc]; omega
  have hWa1 : rowAt W (w.heap.size + 1) = gnA g := by rw [← hW]; simp [go_sem]
  have hWo1 : rowOk W (w.heap.size + 1) = true := by rw [← hW]; simp [go_sem]
  clear hW
  have hWA := fun w' (h : New W w') n hn => rowAt_below h n hn
  have hWO := fun w' (h : New W w') n hn => rowOk_below h n hn
  have hWS := fun w' (h : New W w') n (hn : n < W.heap.size) => eq_true (Nat.lt_of_lt_of_le hn h.size)
  have hl2 := hl.new hnW
  have hv2 := hv.new hnW
  have hW := New.rfl' W
  go_wp2_with (first
    | (go_at_call 28; refine (great21 _ _ _ _ _ _ _).mono ?_; rintro e w1 ⟨rfl, rfl⟩)
    | (go_at_call 30; refine (lives21 _).mono ?_; rintro e w2 ⟨rfl, rfl⟩))
  go_ret
  exact ⟨rfl, hnW.call hW⟩
set_option maxHeartbeats 3200000 in
set_option maxRecDepth 100000 in
theorem told_bad1 (A : Option Addr) (n c : Nat) (l : List It) (fo : Int) (B : Option Addr) (m d : Nat) (v : List Sn) (op : Opr) (g : Gn) (sq : Int) (w : World) (hl : KI.Rd w A n l) (hv : KS.Rd w B m v) (hn : n ≤ 60) (hm : m ≤ 100) (hPl : PosI l) (hPv : PosS v) (hml : mayI l = false) :
    Calls Try.prog 7 #[.slice A n c, .int .u32 fo, .slice B m d, .agg (opA op), .agg (gnA g), .int .u64 sq] w fun e w' => e = .returned (.bool true) ∧ New w w' := by
  have hA1 := refmay_any A n c l
  rw [hml] at hA1
  have HA := Lib.hid hA1
  clear hA1 hml
  have hng : (decide (60 < n) || decide (100 < m)) = false := by simp; omega
  have hng1 : decide (60 < n) = false := by simp; omega
  have hng2 : decide (100 < m) = false := by simp; omega
  go_enter Try.func7, Try.ntmps7
  go_wp2_with fail
  have hnW : New w ((w.alloc (Obj.cells (opA op) 48)).alloc (Obj.cells (gnA g) 54)) := ((New.rfl' w).alloc' _).alloc' _
  generalize hW : ((w.alloc (Obj.cells (opA op) 48)).alloc (Obj.cells (gnA g) 54)) = W at *
  have hWz0 : w.heap.size < W.heap.size := by rw [← hW]; simp only [World.size_alloc]; omega
  have hWa0 : rowAt W (w.heap.size) = opA op := by rw [← hW]; simp [go_sem]
  have hWo0 : rowOk W (w.heap.size) = true := by rw [← hW]; simp [go_sem]
  have hWz1 : w.heap.size + 1 < W.heap.size := by rw [← hW]; simp only [World.size_alloc]; omega
  have hWa1 : rowAt W (w.heap.size + 1) = gnA g := by rw [← hW]; simp [go_sem]
  have hWo1 : rowOk W (w.heap.size + 1) = true := by rw [← hW]; simp [go_sem]
  clear hW
  have hWA := fun w' (h : New W w') n hn => rowAt_below h n hn
  have hWO := fun w' (h : New W w') n hn => rowOk_below h n hn
  have hWS := fun w' (h : New W w') n (hn : n < W.heap.size) => eq_true (Nat.lt_of_lt_of_le hn h.size)
  have hl2 := hl.new hnW
  have hv2 := hv.new hnW
  have hW := New.rfl' W
  go_wp2_with (first
    | (go_at_call 28; refine (great21 _ _ _ _ _ _ _).mono ?_; rintro e w1 ⟨rfl, rfl⟩)
    | (go_at_call 25; refine (HA.out _ (hl2.new hW) (by omega) hPl).mono ?_; rintro e w3 ⟨rfl, hb⟩; have hW := New.call hW hb; clear hb)
    | (go_at_call 30; refine (lives21 _).mono ?_; rintro e w2 ⟨rfl, rfl⟩))
  go_ret
  exact ⟨rfl, hnW.call hW⟩
set_option maxHeartbeats 3200000 in
set_option maxRecDepth 100000 in
theorem told_bad2 (A : Option Addr) (n c : Nat) (l : List It) (fo : Int) (B : Option Addr) (m d : Nat) (v : List Sn) (op : Opr) (g : Gn) (sq : Int) (w : World) (hl : KI.Rd w A n l) (hv : KS.Rd w B m v) (hn : n ≤ 60) (hm : m ≤ 100) (hPl : PosI l) (hPv : PosS v) (hml : mayI l = true) (hmv : risS 0 v = false) :
    Calls Try.prog 7 #[.slice A n c, .int .u32 fo, .slice B m d, .agg (opA op), .agg (gnA g), .int .u64 sq] w fun e w' => e = .returned (.bool true) ∧ New w w' := by
  have hA1 := refmay_any A n c l
  rw [hml] at hA1
  have HA := Lib.hid hA1
  clear hA1 hml
  have hB1 := rvmay_any B m d v
  rw [hmv] at hB1
  have HB := Lib.hid hB1
  clear hB1 hmv
  have hng : (decide (60 < n) || decide (100 < m)) = false := by simp; omega
  have hng1 : decide (60 < n) = false := by simp; omega
  have hng2 : decide (100 < m) = false := by simp; omega
  go_enter Try.func7, Try.ntmps7
  go_wp2_with fail
  have hnW : New w ((w.alloc (Obj.cells (opA op) 48)).alloc (Obj.cells (gnA g) 54)) := ((New.rfl' w).alloc' _).alloc' _
  generalize hW : ((w.alloc (Obj.cells (opA op) 48)).alloc (Obj.cells (gnA g) 54)) = W at *
  have hWz0 : w.heap.size < W.heap.size := by rw [← hW]; simp only [World.size_alloc]; omega
  have hWa0 : rowAt W (w.heap.size) = opA op := by rw [← hW]; simp [go_sem]
  have hWo0 : rowOk W (w.heap.size) = true := by rw [← hW]; simp [go_sem]
  have hWz1 : w.heap.size + 1 < W.heap.size := by rw [← hW]; simp only [World.size_alloc]; omega
  have hWa1 : rowAt W (w.heap.size + 1) = gnA g := by rw [← hW]; simp [go_sem]
  have hWo1 : rowOk W (w.heap.size + 1) = true := by rw [← hW]; simp [go_sem]
  clear hW
  have hWA := fun w' (h : New W w') n hn => rowAt_below h n hn
  have hWO := fun w' (h : New W w') n hn => rowOk_below h n hn
  have hWS := fun w' (h : New W w') n (hn : n < W.heap.size) => eq_true (Nat.lt_of_lt_of_le hn h.size)
  have hl2 := hl.new hnW
  have hv2 := hv.new hnW
  have hW := New.rfl' W
  go_wp2_with (first
    | (go_at_call 28; refine (great21 _ _ _ _ _ _ _).mono ?_; rintro e w1 ⟨rfl, rfl⟩)
    | (go_at_call 25; refine (HA.out _ (hl2.new hW) (by omega) hPl).mono ?_; rintro e w3 ⟨rfl, hb⟩; have hW := New.call hW hb; clear hb)
    | (go_at_call 29; refine (HB.out _ (hv2.new hW) (by omega) hPv).mono ?_; rintro e w4 ⟨rfl, hb⟩; have hW := New.call hW hb; clear hb)
    | (go_at_call 30; refine (lives21 _).mono ?_; rintro e w2 ⟨rfl, rfl⟩))
  go_ret
  exact ⟨rfl, hnW.call hW⟩
set_option maxHeartbeats 3200000 in
set_option maxRecDepth 100000 in
theorem told_of (A : Option Addr) (n c : Nat) (l : List It) (fo : Int) (B : Option Addr) (m d : Nat) (v : List Sn) (op : Opr) (g : Gn) (sq : Int) (w : World) (hl : KI.Rd w A n l) (hv : KS.Rd w B m v) (hn : n ≤ 60) (hm : m ≤ 100) (hPl : PosI l) (hPv : PosS v) (hml : mayI l = true) (hmv : risS 0 v = true) (h : (findS v op.2.2.1).isSome = true ∧ (findS v op.2.2.1).getD 0 = sq) :
    Calls Try.prog 7 #[.slice A n c, .int .u32 fo, .slice B m d, .agg (opA op), .agg (gnA g), .int .u64 sq] w fun e w' => e = .returned (.bool true) ∧ New w w' := by
  obtain ⟨h1, h2⟩ := h
  have hC1 := rvof_any B m d v op.2.2.1
  rw [h1, h2] at hC1
  have HC := Lib.hid hC1
  clear hC1 h1 h2
  have hA1 := refmay_any A n c l
  rw [hml] at hA1
  have HA := Lib.hid hA1
  clear hA1 hml
  have hB1 := rvmay_any B m d v
  rw [hmv] at hB1
  have HB := Lib.hid hB1
  clear hB1 hmv
  have hng : (decide (60 < n) || decide (100 < m)) = false := by simp; omega
  have hng1 : decide (60 < n) = false := by simp; omega
  have hng2 : decide (100 < m) = false := by simp; omega
  go_enter Try.func7, Try.ntmps7
  go_wp2_with fail
  have hnW : New w ((w.alloc (Obj.cells (opA op) 48)).alloc (Obj.cells (gnA g) 54)) := ((New.rfl' w).alloc' _).alloc' _
  generalize hW : ((w.alloc (Obj.cells (opA op) 48)).alloc (Obj.cells (gnA g) 54)) = W at *
  have hWz0 : w.heap.size < W.heap.size := by rw [← hW]; simp only [World.size_alloc]; omega
  have hWa0 : rowAt W (w.heap.size) = opA op := by rw [← hW]; simp [go_sem]
  have hWo0 : rowOk W (w.heap.size) = true := by rw [← hW]; simp [go_sem]
  have hWz1 : w.heap.size + 1 < W.heap.size := by rw [← hW]; simp only [World.size_alloc]; omega
  have hWa1 : rowAt W (w.heap.size + 1) = gnA g := by rw [← hW]; simp [go_sem]
  have hWo1 : rowOk W (w.heap.size + 1) = true := by rw [← hW]; simp [go_sem]
  clear hW
  have hWA := fun w' (h : New W w') n hn => rowAt_below h n hn
  have hWO := fun w' (h : New W w') n hn => rowOk_below h n hn
  have hWS := fun w' (h : New W w') n (hn : n < W.heap.size) => eq_true (Nat.lt_of_lt_of_le hn h.size)
  have hl2 := hl.new hnW
  have hv2 := hv.new hnW
  have hW := New.rfl' W
  go_wp2_with (first
    | (go_at_call 28; refine (great21 _ _ _ _ _ _ _).mono ?_; rintro e w1 ⟨rfl, rfl⟩)
    | (go_at_call 25; refine (HA.out _ (hl2.new hW) (by omega) hPl).mono ?_; rintro e w3 ⟨rfl, hb⟩; have hW := New.call hW hb; clear hb)
    | (go_at_call 29; refine (HB.out _ (hv2.new hW) (by omega) hPv).mono ?_; rintro e w4 ⟨rfl, hb⟩; have hW := New.call hW hb; clear hb)
    | (go_at_call 31; refine (HC.out _ (hv2.new hW) (by omega) hPv).mono ?_; rintro e w5 ⟨rfl, hb⟩; have hW := New.call hW hb; clear hb)
    | (go_at_call 30; refine (lives21 _).mono ?_; rintro e w2 ⟨rfl, rfl⟩))
  go_ret
  exact ⟨rfl, hnW.call hW⟩
set_option maxHeartbeats 3200000 in
set_option maxRecDepth 100000 in
theorem told_zero (A : Option Addr) (n c : Nat) (l : List It) (fo : Int) (B : Option Addr) (m d : Nat) (v : List Sn) (op : Opr) (g : Gn) (sq : Int) (w : World) (hl : KI.Rd w A n l) (hv : KS.Rd w B m v) (hn : n ≤ 60) (hm : m ≤ 100) (hPl : PosI l) (hPv : PosS v) (hml : mayI l = true) (hmv : risS 0 v = true) (h : ¬ ((findS v op.2.2.1).isSome = true ∧ (findS v op.2.2.1).getD 0 = sq)) (I : List It) (S : List Sn) (hDo : ∀ (A : Option Addr) (c : Nat) (B : Option Addr) (d : Nat) (w : World) (hl : KI.Rd w A n l) (hv : KS.Rd w B m v), Calls Try.prog 32 #[.slice A n c, .int .u32 fo, .slice B m d, .agg (opA op), .agg (gnA g), .int .u64 sq] w fun e w' => ∃ a b, e = .returned (.tuple #[a, b, .int .u8 0]) ∧ KI.Own w' w.heap.size a I ∧ KS.Own w' w.heap.size b S ∧ New w w')
    (hmI : mayI I = true) (hmS : risS 0 S = true) (hSl : S.length ≤ 101) (hbut : butI I op.2.2.1 = butI l op.2.2.1) (hdrp : dropS S op.2.2.1 = dropS v op.2.2.1) (hIe : Hid (I = l)) (hSe : Hid (S = v)) :
    Calls Try.prog 7 #[.slice A n c, .int .u32 fo, .slice B m d, .agg (opA op), .agg (gnA g), .int .u64 sq] w fun e w' => e = .returned (.bool true) ∧ New w w' := by
  obtain rfl : l.length = n := hl.1
  obtain rfl : v.length = m := hv.1
  have hC1 := rvof_any B v.length d v op.2.2.1
  have hPI := may_pos hmI
  have hPS := ris_pos hmS
  have hIl := mayI_len I hmI
  have HDo := Lib.hid hDo
  have Hh := Lib.hid h
  have Hbut := Lib.hid hbut
  have Hdrp := Lib.hid hdrp
  have Hbl := Lib.hid (show (butI I op.2.2.1).length ≤ I.length from List.length_filter_le _ _)
  have Hdl := Lib.hid (drop_len S op.2.2.1)
  clear hDo hbut hdrp hmI hmS
  have hA1 := refmay_any A l.length c l
  rw [hml] at hA1
  have HA := Lib.hid hA1
  clear hA1 hml
  have hB1 := rvmay_any B v.length d v
  rw [hmv] at hB1
  have HB := Lib.hid hB1
  clear hB1 hmv
  have hng : (decide (60 < l.length) || decide (100 < v.length)) = false := by simp; omega
  have hng1 : decide (60 < l.length) = false := by simp; omega
  have hng2 : decide (100 < v.length) = false := by simp; omega
  have hsp : (findS v op.2.2.1).isSome = false ∨ ((findS v op.2.2.1).isSome = true ∧ ((findS v op.2.2.1).getD 0 == sq) = false) := by
    cases hh : (findS v op.2.2.1).isSome
    · exact .inl rfl
    · exact .inr ⟨rfl, by have := Hh.out; rw [hh] at this; simpa using this⟩
  clear h
  generalize (findS v op.2.2.1).isSome = st at *
  generalize (findS v op.2.2.1).getD 0 = sv at *
  have HC := Lib.hid hC1
  clear hC1
  have hl0 := hl
  rcases hsp with hsp | ⟨hsp, hsq⟩
  all_goals
    subst hsp
    go_enter Try.func7, Try.ntmps7
    go_wp2_with fail
    have hnW : New w ((w.alloc (Obj.cells (opA op) 48)).alloc (Obj.cells (gnA g) 54)) := ((New.rfl' w).alloc' _).alloc' _
    generalize hW : ((w.alloc (Obj.cells (opA op) 48)).alloc (Obj.cells (gnA g) 54)) = W at *
    have hWz0 : w.heap.size < W.heap.size := by rw [← hW]; simp only [World.size_alloc]; omega
    have hWa0 : rowAt W (w.heap.size) = opA op := by rw [← hW]; simp [go_sem]
    have hWo0 : rowOk W (w.heap.size) = true := by rw [← hW]; simp [go_sem]
    have hWz1 : w.heap.size + 1 < W.heap.size := by rw [← hW]; simp only [World.size_alloc]; omega
    have hWa1 : rowAt W (w.heap.size + 1) = gnA g := by rw [← hW]; simp [go_sem]
    have hWo1 : rowOk W (w.heap.size + 1) = true := by rw [← hW]; simp [go_sem]
    clear hW
    have hWA := fun w' (h : New W w') n hn => rowAt_below h n hn
    have hWO := fun w' (h : New W w') n hn => rowOk_below h n hn
    have hWS := fun w' (h : New W w') n (hn : n < W.heap.size) => eq_true (Nat.lt_of_lt_of_le hn h.size)
    have hl2 := hl.new hnW
    have hv2 := hv.new hnW
    have hW := New.rfl' W
    go_wp2_with (first
      | (go_at_call 28; refine (great21 _ _ _ _ _ _ _).mono ?_; rintro e w1 ⟨rfl, rfl⟩)
      | (go_at_call 25; refine (HA.out _ (hl2.new hW) (by omega) hPl).mono ?_; rintro e w3 ⟨rfl, hb⟩; have hW := New.call hW hb; clear hb)
      | (go_at_call 29; refine (HB.out _ (hv2.new hW) (by omega) hPv).mono ?_; rintro e w4 ⟨rfl, hb⟩; have hW := New.call hW hb; clear hb)
      | (go_at_call 31; refine (HC.out _ (hv2.new hW) (by omega) hPv).mono ?_; rintro e w5 ⟨rfl, hb⟩; have hW := New.call hW hb; clear hb))
    go_loopw [15] (fun i wr => ∃ k : Nat, k ≤ l.length ∧ i = .int .i64 k ∧ New W wr) (fun i _ => l.length - (intOf i).toNat)
    case atStart => exact ⟨0, by omega, rfl, hW⟩
    case round =>
      obtain ⟨k, hk, rfl, hr⟩ := hrel
      by_cases hlt : k < l.length
      · skip
        obtain ⟨bhl2, ohl2, rfl, hbhl2, hchl2⟩ := hl2.2 (by omega)
        have hrhl2 : ∀ w', New W w' → ∀ k (hk : k < l.length), w'.cell? ⟨bhl2, ohl2 + k * 11, none⟩ = (itA l[k])[0]? := fun w' hw k hk => (hw.cell (p := ⟨bhl2, _, none⟩) hbhl2).trans (hchl2 k hk 0 (by decide))
        have hshl2 : ∀ w', New W w' → ∀ k (hk : k < l.length) j, j < 11 → w'.cell? ⟨bhl2, ohl2 + k * 11 + j, none⟩ = (itA l[k])[j]? := fun w' hw k hk j hj => (hw.cell (p := ⟨bhl2, _, none⟩) hbhl2).trans (hchl2 k hk j hj)
        clear hchl2
        rcases Bool.eq_false_or_eq_true (l[k].2.2.1 == sq) with e1 | e1
        · go_wp2_with (first
          | (go_at_call 30; refine (lives21 _).mono ?_; rintro e w2 ⟨rfl, rfl⟩))
          go_ret
          exact ⟨rfl, hnW.call hr⟩
        · go_wp2_with fail
          go_roundw
          case rel => exact ⟨k + 1, by omega, by go_num, hr⟩
          case measure => simp [intOf]; omega
      · have hW := hr
        have hL3 := New.rfl' wr
        go_wp2_with (first
          | (go_at_call 32; refine (HDo.out _ _ _ _ _ (hl2.new hW) (hv2.new hW)).mono ?_; rintro e w6 ⟨a, b, rfl, hI, hS, hb⟩; obtain ⟨A1, c1, rfl, _, hI1⟩ := hI.rd; obtain ⟨B1, d1, rfl, _, hS1⟩ := hS.rd; have hW := New.call hW hb; have hL3 := New.rfl' w6; clear hb hI hS))
        go_region_held3 (fun w' => New W w') (first | exact hW | exact New.drew' hW)
          (first
          | (go_at_call_of 33 A1; refine (but_any _ _ _ I _ _ (hI1.new (New.drew' hL3)) (by omega)).mono ?_; rintro e w7 ⟨u7, rfl, hu7, hb⟩; obtain ⟨A7, c7, rfl, _, hu7⟩ := hu7.rd; have hW := (New.drew' hW).call hb; have hL3 := (New.drew' hL3).call hb; clear hb)
          | (go_at_call 33; refine (but_any _ _ _ l _ _ (hl2.new hW) (by omega)).mono ?_; rintro e w8 ⟨u8, rfl, hu8, hb⟩; obtain ⟨A8, c8, rfl, _, hu8⟩ := hu8.rd; have hu7 := hu7.new hb; have hW := hW.call hb; have hL3 := hL3.call hb; clear hb)
          | (go_at_call 18; refine (refsame_t _ _ _ _ _ _ _ _ _ hu7 hu8 (by have := Hbl.out; omega) (by rw [← Hbut.out]; have := Hbl.out; omega) Hbut.out).mono ?_; rintro e w9 ⟨rfl, hb⟩; have hW := hW.call hb; have hL3 := hL3.call hb; clear hb)
          | (go_at_call_of 35 B1; refine (rvdrop_any _ _ _ S _ _ (hS1.new hL3) (by omega) hPS).mono ?_; rintro e w10 ⟨u9, rfl, hu9, hb⟩; obtain ⟨A9, c9, rfl, _, hu9⟩ := hu9.rd; have hW := hW.call hb; have hL3 := hL3.call hb; clear hb)
          | (go_at_call 35; refine (rvdrop_any _ _ _ v _ _ (hv2.new hW) (by omega) hPv).mono ?_; rintro e w11 ⟨u10, rfl, hu10, hb⟩; obtain ⟨A10, c10, rfl, _, hu10⟩ := hu10.rd; have hu9 := hu9.new hb; have hW := hW.call hb; have hL3 := hL3.call hb; clear hb)
          | (go_at_call 34; refine (rvsame_t _ _ _ _ _ _ _ _ _ hu9 hu10 (by have := Hdl.out; omega) (by rw [← Hdrp.out]; have := Hdl.out; omega) Hdrp.out).mono ?_; rintro e w12 ⟨rfl, hb⟩; have hW := hW.call hb; have hL3 := hL3.call hb; clear hb))
        go_wp2_with (first
          | (go_at_call 18; refine (refsame_t _ _ _ I _ _ _ l _ (hI1.new hL3) (hl2.new hW) (by omega) (by omega) hIe.out).mono ?_; rintro e w16 ⟨rfl, hb⟩; have hW := hW.call hb; have hL3 := hL3.call hb; clear hb)
          | (go_at_call 34; refine (rvsame_t _ _ _ S _ _ _ v _ (hS1.new hL3) (hv2.new hW) (by omega) (by omega) hSe.out).mono ?_; rintro e w17 ⟨rfl, hb⟩; have hW := hW.call hb; have hL3 := hL3.call hb; clear hb)
          | (go_at_call 30; refine (lives21 _).mono ?_; rintro e w2 ⟨rfl, rfl⟩))
        go_ret
        exact ⟨rfl, hnW.call hW⟩
set_option maxHeartbeats 3200000 in
set_option maxRecDepth 100000 in
theorem told_one (A : Option Addr) (n c : Nat) (l : List It) (fo : Int) (B : Option Addr) (m d : Nat) (v : List Sn) (op : Opr) (g : Gn) (sq : Int) (w : World) (hl : KI.Rd w A n l) (hv : KS.Rd w B m v) (hn : n ≤ 60) (hm : m ≤ 100) (hPl : PosI l) (hPv : PosS v) (hml : mayI l = true) (hmv : risS 0 v = true) (h : ¬ ((findS v op.2.2.1).isSome = true ∧ (findS v op.2.2.1).getD 0 = sq)) (I : List It) (S : List Sn) (hDo : ∀ (A : Option Addr) (c : Nat) (B : Option Addr) (d : Nat) (w : World) (hl : KI.Rd w A n l) (hv : KS.Rd w B m v), Calls Try.prog 32 #[.slice A n c, .int .u32 fo, .slice B m d, .agg (opA op), .agg (gnA g), .int .u64 sq] w fun e w' => ∃ a b, e = .returned (.tuple #[a, b, .int .u8 1]) ∧ KI.Own w' w.heap.size a I ∧ KS.Own w' w.heap.size b S ∧ New w w')
    (hmI : mayI I = true) (hmS : risS 0 S = true) (hSl : S.length ≤ 101) (hbut : butI I op.2.2.1 = butI l op.2.2.1) (hdrp : dropS S op.2.2.1 = dropS v op.2.2.1) (hIe : Hid (I = l)) (hSe : Hid (S = v)) :
    Calls Try.prog 7 #[.slice A n c, .int .u32 fo, .slice B m d, .agg (opA op), .agg (gnA g), .int .u64 sq] w fun e w' => e = .returned (.bool true) ∧ New w w' := by
  obtain rfl : l.length = n := hl.1
  obtain rfl : v.length = m := hv.1
  have hC1 := rvof_any B v.length d v op.2.2.1
  have hPI := may_pos hmI
  have hPS := ris_pos hmS
  have hIl := mayI_len I hmI
  have HDo := Lib.hid hDo
  have Hh := Lib.hid h
  have Hbut := Lib.hid hbut
  have Hdrp := Lib.hid hdrp
  have Hbl := Lib.hid (show (butI I op.2.2.1).length ≤ I.length from List.length_filter_le _ _)
  have Hdl := Lib.hid (drop_len S op.2.2.1)
  clear hDo hbut hdrp hmI hmS
  have hA1 := refmay_any A l.length c l
  rw [hml] at hA1
  have HA := Lib.hid hA1
  clear hA1 hml
  have hB1 := rvmay_any B v.length d v
  rw [hmv] at hB1
  have HB := Lib.hid hB1
  clear hB1 hmv
  have hng : (decide (60 < l.length) || decide (100 < v.length)) = false := by simp; omega
  have hng1 : decide (60 < l.length) = false := by simp; omega
  have hng2 : decide (100 < v.length) = false := by simp; omega
  have hsp : (findS v op.2.2.1).isSome = false ∨ ((findS v op.2.2.1).isSome = true ∧ ((findS v op.2.2.1).getD 0 == sq) = false) := by
    cases hh : (findS v op.2.2.1).isSome
    · exact .inl rfl
    · exact .inr ⟨rfl, by have := Hh.out; rw [hh] at this; simpa using this⟩
  clear h
  generalize (findS v op.2.2.1).isSome = st at *
  generalize (findS v op.2.2.1).getD 0 = sv at *
  have HC := Lib.hid hC1
  clear hC1
  have hl0 := hl
  rcases hsp with hsp | ⟨hsp, hsq⟩
  all_goals
    subst hsp
    go_enter Try.func7, Try.ntmps7
    go_wp2_with fail
    have hnW : New w ((w.alloc (Obj.cells (opA op) 48)).alloc (Obj.cells (gnA g) 54)) := ((New.rfl' w).alloc' _).alloc' _
    generalize hW : ((w.alloc (Obj.cells (opA op) 48)).alloc (Obj.cells (gnA g) 54)) = W at *
    have hWz0 : w.heap.size < W.heap.size := by rw [← hW]; simp only [World.size_alloc]; omega
    have hWa0 : rowAt W (w.heap.size) = opA op := by rw [← hW]; simp [go_sem]
    have hWo0 : rowOk W (w.heap.size) = true := by rw [← hW]; simp [go_sem]
    have hWz1 : w.heap.size + 1 < W.heap.size := by rw [← hW]; simp only [World.size_alloc]; omega
    have hWa1 : rowAt W (w.heap.size + 1) = gnA g := by rw [← hW]; simp [go_sem]
    have hWo1 : rowOk W (w.heap.size + 1) = true := by rw [← hW]; simp [go_sem]
    clear hW
    have hWA := fun w' (h : New W w') n hn => rowAt_below h n hn
    have hWO := fun w' (h : New W w') n hn => rowOk_below h n hn
    have hWS := fun w' (h : New W w') n (hn : n < W.heap.size) => eq_true (Nat.lt_of_lt_of_le hn h.size)
    have hl2 := hl.new hnW
    have hv2 := hv.new hnW
    have hW := New.rfl' W
    go_wp2_with (first
      | (go_at_call 28; refine (great21 _ _ _ _ _ _ _).mono ?_; rintro e w1 ⟨rfl, rfl⟩)
      | (go_at_call 25; refine (HA.out _ (hl2.new hW) (by omega) hPl).mono ?_; rintro e w3 ⟨rfl, hb⟩; have hW := New.call hW hb; clear hb)
      | (go_at_call 29; refine (HB.out _ (hv2.new hW) (by omega) hPv).mono ?_; rintro e w4 ⟨rfl, hb⟩; have hW := New.call hW hb; clear hb)
      | (go_at_call 31; refine (HC.out _ (hv2.new hW) (by omega) hPv).mono ?_; rintro e w5 ⟨rfl, hb⟩; have hW := New.call hW hb; clear hb))
    go_loopw [15] (fun i wr => ∃ k : Nat, k ≤ l.length ∧ i = .int .i64 k ∧ New W wr) (fun i _ => l.length - (intOf i).toNat)
    case atStart => exact ⟨0, by omega, rfl, hW⟩
    case round =>
      obtain ⟨k, hk, rfl, hr⟩ := hrel
      by_cases hlt : k < l.length
      · skip
        obtain ⟨bhl2, ohl2, rfl, hbhl2, hchl2⟩ := hl2.2 (by omega)
        have hrhl2 : ∀ w', New W w' → ∀ k (hk : k < l.length), w'.cell? ⟨bhl2, ohl2 + k * 11, none⟩ = (itA l[k])[0]? := fun w' hw k hk => (hw.cell (p := ⟨bhl2, _, none⟩) hbhl2).trans (hchl2 k hk 0 (by decide))
        have hshl2 : ∀ w', New W w' → ∀ k (hk : k < l.length) j, j < 11 → w'.cell? ⟨bhl2, ohl2 + k * 11 + j, none⟩ = (itA l[k])[j]? := fun w' hw k hk j hj => (hw.cell (p := ⟨bhl2, _, none⟩) hbhl2).trans (hchl2 k hk j hj)
        clear hchl2
        rcases Bool.eq_false_or_eq_true (l[k].2.2.1 == sq) with e1 | e1
        · go_wp2_with (first
          | (go_at_call 30; refine (lives21 _).mono ?_; rintro e w2 ⟨rfl, rfl⟩))
          go_ret
          exact ⟨rfl, hnW.call hr⟩
        · go_wp2_with fail
          go_roundw
          case rel => exact ⟨k + 1, by omega, by go_num, hr⟩
          case measure => simp [intOf]; omega
      · have hW := hr
        have hL3 := New.rfl' wr
        go_wp2_with (first
          | (go_at_call 32; refine (HDo.out _ _ _ _ _ (hl2.new hW) (hv2.new hW)).mono ?_; rintro e w6 ⟨a, b, rfl, hI, hS, hb⟩; obtain ⟨A1, c1, rfl, _, hI1⟩ := hI.rd; obtain ⟨B1, d1, rfl, _, hS1⟩ := hS.rd; have hW := New.call hW hb; have hL3 := New.rfl' w6; clear hb hI hS))
        go_region_held3 (fun w' => New W w') (first | exact hW | exact New.drew' hW)
          (first
          | (go_at_call_of 33 A1; refine (but_any _ _ _ I _ _ (hI1.new (New.drew' hL3)) (by omega)).mono ?_; rintro e w7 ⟨u7, rfl, hu7, hb⟩; obtain ⟨A7, c7, rfl, _, hu7⟩ := hu7.rd; have hW := (New.drew' hW).call hb; have hL3 := (New.drew' hL3).call hb; clear hb)
          | (go_at_call 33; refine (but_any _ _ _ l _ _ (hl2.new hW) (by omega)).mono ?_; rintro e w8 ⟨u8, rfl, hu8, hb⟩; obtain ⟨A8, c8, rfl, _, hu8⟩ := hu8.rd; have hu7 := hu7.new hb; have hW := hW.call hb; have hL3 := hL3.call hb; clear hb)
          | (go_at_call 18; refine (refsame_t _ _ _ _ _ _ _ _ _ hu7 hu8 (by have := Hbl.out; omega) (by rw [← Hbut.out]; have := Hbl.out; omega) Hbut.out).mono ?_; rintro e w9 ⟨rfl, hb⟩; have hW := hW.call hb; have hL3 := hL3.call hb; clear hb)
          | (go_at_call_of 35 B1; refine (rvdrop_any _ _ _ S _ _ (hS1.new hL3) (by omega) hPS).mono ?_; rintro e w10 ⟨u9, rfl, hu9, hb⟩; obtain ⟨A9, c9, rfl, _, hu9⟩ := hu9.rd; have hW := hW.call hb; have hL3 := hL3.call hb; clear hb)
          | (go_at_call 35; refine (rvdrop_any _ _ _ v _ _ (hv2.new hW) (by omega) hPv).mono ?_; rintro e w11 ⟨u10, rfl, hu10, hb⟩; obtain ⟨A10, c10, rfl, _, hu10⟩ := hu10.rd; have hu9 := hu9.new hb; have hW := hW.call hb; have hL3 := hL3.call hb; clear hb)
          | (go_at_call 34; refine (rvsame_t _ _ _ _ _ _ _ _ _ hu9 hu10 (by have := Hdl.out; omega) (by rw [← Hdrp.out]; have := Hdl.out; omega) Hdrp.out).mono ?_; rintro e w12 ⟨rfl, hb⟩; have hW := hW.call hb; have hL3 := hL3.call hb; clear hb))
        go_wp2_with (first
          | (go_at_call 18; refine (refsame_t _ _ _ I _ _ _ l _ (hI1.new hL3) (hl2.new hW) (by omega) (by omega) hIe.out).mono ?_; rintro e w16 ⟨rfl, hb⟩; have hW := hW.call hb; have hL3 := hL3.call hb; clear hb)
          | (go_at_call 34; refine (rvsame_t _ _ _ S _ _ _ v _ (hS1.new hL3) (hv2.new hW) (by omega) (by omega) hSe.out).mono ?_; rintro e w17 ⟨rfl, hb⟩; have hW := hW.call hb; have hL3 := hL3.call hb; clear hb)
          | (go_at_call 30; refine (lives21 _).mono ?_; rintro e w2 ⟨rfl, rfl⟩))
        go_ret
        exact ⟨rfl, hnW.call hW⟩
end Go.Proofs.Ytkgebhmlogddcaa
