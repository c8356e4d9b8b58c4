/- Contracts: view.Drop. -/
import Derived.Test.YtkgebhmlogddcaaView5
namespace Go.Proofs.Ytkgebhmlogddcaa
open Go.RowKit
set_option linter.unusedSimpArgs false
attribute [local go_sem] rowAt_alloc_at rowAt_alloc_past rowOk_alloc_at rowOk_alloc_past rowAt_drew rowOk_drew setRow_alloc_at setRow_alloc_past rowAt_setRow rowAt_setRow_far rowOk_setRow cell_rowOk frozen_rowOk setCell_rowOk setRow_setRow con_fold con_get con_size con_set set_all none8_cells equalIn_con storeCells_con
attribute [local go_sem] it_size it_0 it_1 it_2 it_3 it_4 it_5 it_6 it_7 it_8 it_9 it_10 it_set0 it_set1 it_set2 it_fold it_zero it_eta it_fill run_storeCells_it
attribute [local go_sem] sn_size sn_0 sn_1 sn_set0 sn_set1 sn_fold sn_eta sn_fill run_storeCells_sn eqg_sn eqg_it
attribute [local go_sem high] equalIn_sn equalIn_it

set_option maxHeartbeats 400000 in
theorem vdrop1_any (x : Sn) (g : Nat) (id : Int) (w : World) (hok : rowOk w g = true) (hg : rowAt w g = #[.int .u32 id]) :
    Calls Try.prog 66 #[.agg (snA x), .pointer (some ⟨g, 0, none⟩)] w fun e w' => e = .returned (.bool (x.1 == id)) ∧ New w w' := by
  have hlt := rowOk_lt w hok
  go_enter Try.func66, Try.ntmps66
  go_wp2
  go_ret
  exact ⟨rfl, (New.rfl' w).alloc' _⟩
theorem call_vdrop1 (args : Array Value) (w : World) : (callFunc 66 args).run Try.prog w = .ok (.enter 66 args) w := call_go Try.func66 (by kernel_rfl) (by kernel_rfl) args w
set_option maxHeartbeats 800000 in
theorem vdrop_any (A : Option Addr) (n c : Nat) (l : List Sn) (id : Int) (w : World) (hl : KS.Rd w A n l) (hn : n ≤ 1000) :
    Calls Try.prog 41 #[.slice A n c, .int .u32 id] w fun e w' => ∃ v, e = .returned v ∧ KS.Own w' w.heap.size v (dropS l id) ∧ New w w' := by
  obtain rfl : l.length = n := hl.1
  have hA1 := vmay_any A l.length c l
  rcases Bool.eq_false_or_eq_true (risS 0 l) with hm | hm
  · have hd : dropS l id = l.filter fun x => !(x.1 == id) := by simp [dropS, hm]; rfl
    rw [hm] at hA1
    have HA := Lib.hid hA1
    rw [hd]
    clear hA1 hm hd
    go_enter Try.func41, Try.ntmps41
    go_wp2_with fail
    have hnW : New w (w.alloc (Obj.cells (#[.int .u32 id]) 23)) := (New.rfl' w).alloc' _
    generalize hW : (w.alloc (Obj.cells (#[.int .u32 id]) 23)) = W at *
    have hWz0 : w.heap.size < W.heap.size := by rw [← hW]; simp only [World.size_alloc]; omega
    have hWa0 : rowAt W (w.heap.size) = #[.int .u32 id] := by rw [← hW]; simp [go_sem]
    have hWo0 : rowOk W (w.heap.size) = true := by rw [← hW]; simp [go_sem]
    clear hW
    have hWA := fun w' (h : New W w') n hn => rowAt_below h n hn
    have hWO := fun w' (h : New W w') n hn => rowOk_below h n hn
    have hWS := fun w' (h : New W w') n (hn : n < W.heap.size) => eq_true (Nat.lt_of_lt_of_le hn h.size)
    have hl2 := hl.new hnW
    go_wp2_with (first
      | (go_at_call 42; refine (HA.out _ hl2 (by omega)).mono ?_; rintro e w1 ⟨rfl, hb1⟩)
      | (go_at_call 57; refine (cloneS_any _ _ _ l _ (hl2.new hb1) hn).mono ?_; rintro e w2 ⟨v, rfl, hv, hb⟩; have hb2 := New.call hb1 hb; clear hb)
      | (go_at_call 65; refine (deleteF_any v l 66 _ (fun x => x.1 == id) W _ _ hv hn hb2 hb1.size call_vdrop1 (fun x w' h => vdrop1_any x w.heap.size id w' (by rw [hWO w' h _ hWz0, hWo0]) (by rw [hWA w' h _ hWz0, hWa0]))).mono ?_; rintro e w3 ⟨v3, rfl, hv3, hb3⟩))
    go_ret
    exact ⟨_, rfl, hv3.lower (by have := hb1.size; have := hnW.size; omega), hnW.call hb3⟩
  · have hd : dropS l id = [] := by simp [dropS, hm]
    rw [hm] at hA1
    have HA := Lib.hid hA1
    rw [hd]
    clear hA1 hm hd
    go_enter Try.func41, Try.ntmps41
    go_wp2_with fail
    have hnW : New w (w.alloc (Obj.cells (#[.int .u32 id]) 23)) := (New.rfl' w).alloc' _
    generalize hW : (w.alloc (Obj.cells (#[.int .u32 id]) 23)) = W at *
    have hWz0 : w.heap.size < W.heap.size := by rw [← hW]; simp only [World.size_alloc]; omega
    have hWa0 : rowAt W (w.heap.size) = #[.int .u32 id] := by rw [← hW]; simp [go_sem]
    have hWo0 : rowOk W (w.heap.size) = true := by rw [← hW]; simp [go_sem]
    clear hW
    have hWA := fun w' (h : New W w') n hn => rowAt_below h n hn
    have hWO := fun w' (h : New W w') n hn => rowOk_below h n hn
    have hWS := fun w' (h : New W w') n (hn : n < W.heap.size) => eq_true (Nat.lt_of_lt_of_le hn h.size)
    have hl2 := hl.new hnW
    go_wp2_with (first
      | (go_at_call 42; refine (HA.out _ hl2 (by omega)).mono ?_; rintro e w1 ⟨rfl, hb1⟩))
    go_ret
    exact ⟨_, rfl, Kind.Own.nil, hnW.call hb1⟩
end Go.Proofs.Ytkgebhmlogddcaa
