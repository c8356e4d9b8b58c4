/- Contracts of the layer item: one of them, those of a folder, what is added, changed and dropped. -/
import Derived.Test.YtkgebhmlogddcaaItem
namespace Go.Proofs.Ytkgebhmlogddcaa
open Go.RowKit
set_option linter.unusedSimpArgs false
attribute [local go_sem] rowAt_alloc_at rowAt_alloc_past rowOk_alloc_at rowOk_alloc_past rowAt_drew rowOk_drew setRow_alloc_at setRow_alloc_past rowAt_setRow rowAt_setRow_far rowOk_setRow cell_rowOk frozen_rowOk setCell_rowOk setRow_setRow con_fold con_get con_size con_set set_all none8_cells equalIn_con storeCells_con
attribute [local go_sem] it_size it_0 it_1 it_2 it_3 it_4 it_5 it_6 it_7 it_8 it_9 it_10 it_set0 it_set1 it_set2 it_fold it_zero it_eta it_fill run_storeCells_it

set_option maxHeartbeats 800000 in
theorem iFind_any (A : Option Addr) (n c : Nat) (l : List It) (id : Int) (w : World) (hl : KI.Rd w A n l) (hn : n ≤ 140737488355328) :
    Calls Try.prog 22 #[.slice A n c, .int .u32 id] w fun e w' => e = .returned (.tuple #[.agg (itA ((findI l id).getD itZ)), .bool (findI l id).isSome]) ∧ New w w' := by
  rcases Bool.eq_false_or_eq_true (mayI l) with hm | hm
  · rcases Bool.eq_false_or_eq_true (hasI l id) with hh | hh
    · obtain ⟨hp, hpe, hf⟩ := pos_has l id (risI_of l hm) hh
      clear hpe
      have hx : findI l id = some l[posI l id] := by rw [findI, if_pos hm, hf]
      have h0 : 0 < n := by have := hl.1; omega
      rw [hx]
      have hris := Lib.hid (risI_of l hm)
      have hA1 := imay_any A n c l
      rw [hm] at hA1
      have HA := Lib.hid hA1
      have hB1 := ifind_any A n c l id
      rw [hh] at hB1
      have HB := Lib.hid hB1
      clear hx hf hA1 hB1 hm hh
      obtain rfl : l.length = n := hl.1
      generalize hpp : posI l id = p at *
      have Hpp := Lib.hid hpp
      clear hpp
      go_enter Try.func22, Try.ntmps22
      go_wp2_with fail
      have hnW : New w (w.alloc (Obj.cells (itA itZ) 28)) := (New.rfl' w).alloc' _
      generalize hW : (w.alloc (Obj.cells (itA itZ) 28)) = W at *
      have hWz0 : w.heap.size < W.heap.size := by rw [← hW]; simp only [World.size_alloc]; omega
      have hWa0 : rowAt W (w.heap.size) = itA itZ := by rw [← hW]; simp [go_sem]
      have hWo0 : rowOk W (w.heap.size) = true := by rw [← hW]; simp [go_sem]
      clear hW
      have hWA := fun w' (h : New W w') n hn => rowAt_below h n hn
      have hWO := fun w' (h : New W w') n hn => rowOk_below h n hn
      have hWS := fun w' (h : New W w') n (hn : n < W.heap.size) => eq_true (Nat.lt_of_lt_of_le hn h.size)
      have hl2 := hl.new hnW
      have hl3 := hl2
      have hr := New.rfl' W
      obtain ⟨bhl2, ohl2, rfl, hbhl2, hchl2⟩ := hl2.2 (by omega)
      have hrhl2 : ∀ w', New W w' → ∀ k (hk : k < l.length), w'.cell? ⟨bhl2, ohl2 + k * 11, none⟩ = (itA l[k])[0]? := fun w' hw k hk => (hw.cell (p := ⟨bhl2, _, none⟩) hbhl2).trans (hchl2 k hk 0 (by decide))
      have hshl2 : ∀ w', New W w' → ∀ k (hk : k < l.length) j, j < 11 → w'.cell? ⟨bhl2, ohl2 + k * 11 + j, none⟩ = (itA l[k])[j]? := fun w' hw k hk j hj => (hw.cell (p := ⟨bhl2, _, none⟩) hbhl2).trans (hchl2 k hk j hj)
      clear hchl2
      go_wp2_with (first
        | (go_at_call 21; refine (HA.out _ hl3 hn).mono ?_; rintro e w1 ⟨rfl, hb1⟩)
        | (go_at_call 47; refine (HB.out _ (hl3.new hb1) hn hris.out).mono ?_; rintro e w2 ⟨rfl, hb⟩; have hb2 := New.call hb1 hb; clear hb))
      exact bodyPost_ret (results_it2 rfl _ _ w.heap.size _ rfl (by go_simp) (by go_simp)) rfl ⟨rfl, (hnW.call hb2).row _ _ (Nat.le_refl _)⟩
    · have hx : findI l id = none := by
        have := findI_has l id hm
        rw [hh] at this
        simpa using this
      rw [hx]
      have hris := Lib.hid (risI_of l hm)
      have hA1 := imay_any A n c l
      rw [hm] at hA1
      have HA := Lib.hid hA1
      have hB1 := ifind_any A n c l id
      rw [hh] at hB1
      have HB := Lib.hid hB1
      clear hx hA1 hB1 hm hh
      obtain rfl : l.length = n := hl.1
      go_enter Try.func22, Try.ntmps22
      go_wp2_with fail
      have hnW : New w (w.alloc (Obj.cells (itA itZ) 28)) := (New.rfl' w).alloc' _
      generalize hW : (w.alloc (Obj.cells (itA itZ) 28)) = W at *
      have hWz0 : w.heap.size < W.heap.size := by rw [← hW]; simp only [World.size_alloc]; omega
      have hWa0 : rowAt W (w.heap.size) = itA itZ := by rw [← hW]; simp [go_sem]
      have hWo0 : rowOk W (w.heap.size) = true := by rw [← hW]; simp [go_sem]
      clear hW
      have hWA := fun w' (h : New W w') n hn => rowAt_below h n hn
      have hWO := fun w' (h : New W w') n hn => rowOk_below h n hn
      have hWS := fun w' (h : New W w') n (hn : n < W.heap.size) => eq_true (Nat.lt_of_lt_of_le hn h.size)
      have hl2 := hl.new hnW
      have hr := New.rfl' W
      go_wp2_with (first
        | (go_at_call 21; refine (HA.out _ hl2 hn).mono ?_; rintro e w1 ⟨rfl, hb1⟩)
        | (go_at_call 47; refine (HB.out _ (hl2.new hb1) hn hris.out).mono ?_; rintro e w2 ⟨rfl, hb⟩; have hb2 := New.call hb1 hb; clear hb))
      exact bodyPost_ret (results_it2 rfl _ _ w.heap.size itZ rfl (by go_simp) (by go_simp)) rfl ⟨rfl, (hnW.call hb2).row _ _ (Nat.le_refl _)⟩
  · have hx : findI l id = none := by simp [findI, hm]
    rw [hx]
    have hA1 := imay_any A n c l
    rw [hm] at hA1
    have HA := Lib.hid hA1
    clear hx hA1 hm
    obtain rfl : l.length = n := hl.1
    go_enter Try.func22, Try.ntmps22
    go_wp2_with fail
    have hnW : New w (w.alloc (Obj.cells (itA itZ) 28)) := (New.rfl' w).alloc' _
    generalize hW : (w.alloc (Obj.cells (itA itZ) 28)) = W at *
    have hWz0 : w.heap.size < W.heap.size := by rw [← hW]; simp only [World.size_alloc]; omega
    have hWa0 : rowAt W (w.heap.size) = itA itZ := by rw [← hW]; simp [go_sem]
    have hWo0 : rowOk W (w.heap.size) = true := by rw [← hW]; simp [go_sem]
    clear hW
    have hWA := fun w' (h : New W w') n hn => rowAt_below h n hn
    have hWO := fun w' (h : New W w') n hn => rowOk_below h n hn
    have hWS := fun w' (h : New W w') n (hn : n < W.heap.size) => eq_true (Nat.lt_of_lt_of_le hn h.size)
    have hl2 := hl.new hnW
    go_wp2_with (first
      | (go_at_call 21; refine (HA.out _ hl2 hn).mono ?_; rintro e w1 ⟨rfl, hb1⟩))
    exact bodyPost_ret (results_it2 rfl _ _ w.heap.size itZ rfl (by go_simp) (by go_simp)) rfl ⟨rfl, (hnW.call hb1).row _ _ (Nat.le_refl _)⟩
end Go.Proofs.Ytkgebhmlogddcaa
