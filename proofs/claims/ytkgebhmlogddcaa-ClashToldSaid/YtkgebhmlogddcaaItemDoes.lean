/- The law ItemDoes, walked. -/
import Derived.Test.YtkgebhmlogddcaaItemLives
namespace Go.Proofs.Ytkgebhmlogddcaa
open Go.RowKit
set_option linter.unusedSimpArgs false
attribute [local go_sem] rowAt_alloc_at rowAt_alloc_past rowOk_alloc_at rowOk_alloc_past rowAt_drew rowOk_drew setRow_alloc_at setRow_alloc_past rowAt_setRow rowAt_setRow_far rowOk_setRow cell_rowOk frozen_rowOk setCell_rowOk setRow_setRow con_fold con_get con_size con_set set_all none8_cells equalIn_con storeCells_con
attribute [local go_sem] it_size it_0 it_1 it_2 it_3 it_4 it_5 it_6 it_7 it_8 it_9 it_10 it_set0 it_set1 it_set2 it_fold it_zero it_eta it_fill run_storeCells_it
attribute [local go_sem high] equalIn_it
attribute [local go_sem] eqg_it

theorem inI_len2 (l : List It) (fo : Int) : (inI l fo).length ≤ l.length := by
  unfold inI thoseI; split
  · exact List.length_filter_le _ _
  · simp
theorem addI_len (l : List It) (x : It) : (addI l x).1.length ≤ l.length + 1 := by
  have := posI_le l x.1
  unfold addI insI
  split
  · simp
  · split
    · simp
    · split <;> simp <;> omega
theorem changeI_len (l : List It) (x : It) : (changeI l x).1.length ≤ l.length + 1 := by
  have := posI_le l x.1
  unfold changeI chgI
  split
  · simp
  · split
    · simp
    · simp; omega
theorem dropI_len (l : List It) (id : Int) : (dropI l id).1.length ≤ l.length + 1 := by
  have := posI_le l id
  unfold dropI drpI
  split
  · simp
  · split
    · simp
    · simp; omega
set_option maxHeartbeats 3200000 in
set_option maxRecDepth 100000 in
theorem does_i (A : Option Addr) (n c : Nat) (l : List It) (x : It) (w : World) (hl : KI.Rd w A n l) (hc : n ≤ c) (hn : n ≤ 140737488355328) (hP : PosI l) :
    Calls Try.prog 3 #[.slice A n c, .agg (itA x)] w fun e w' => e = .returned (.bool true) ∧ New w w' := by
  obtain rfl : l.length = n := hl.1
  by_cases h1 : 100 < l.length
  · have hd : decide (100 < l.length) = true := by simpa using h1
    go_enter Try.func3, Try.ntmps3
    go_wp2_with fail
    have hnW : New w (w.alloc (Obj.cells (itA x) 28)) := (New.rfl' w).alloc' _
    generalize hW : (w.alloc (Obj.cells (itA x) 28)) = W at *
    have hWz0 : w.heap.size < W.heap.size := by rw [← hW]; simp only [World.size_alloc]; omega
    have hWa0 : rowAt W (w.heap.size) = itA x := by rw [← hW]; simp [go_sem]
    have hWo0 : rowOk W (w.heap.size) = true := by rw [← hW]; simp [go_sem]
    clear hW
    have hWA := fun w' (h : New W w') n hn => rowAt_below h n hn
    have hWO := fun w' (h : New W w') n hn => rowOk_below h n hn
    have hWS := fun w' (h : New W w') n (hn : n < W.heap.size) => eq_true (Nat.lt_of_lt_of_le hn h.size)
    go_wp2_with (first
      | (go_at_call 10; refine (great_any _ _ _ _).mono ?_; rintro e w1 ⟨rfl, rfl⟩)
      | (go_at_call 11; refine (lives_i _).mono ?_; rintro e w1 ⟨rfl, hb⟩))
    go_ret
    exact ⟨rfl, hnW.call hb⟩
  have hd : decide (100 < l.length) = false := by simpa using h1
  have ha1 := Lib.hid (addI_len l x)
  have ha2 := Lib.hid (changeI_len l x)
  have ha3 := Lib.hid (dropI_len l x.1)
  have ha4 := Lib.hid (inI_len2 l x.2.1)
  have ha5 := Lib.hid h1
  go_enter Try.func3, Try.ntmps3
  go_wp2_with fail
  have hnW : New w (w.alloc (Obj.cells (itA x) 28)) := (New.rfl' w).alloc' _
  generalize hW : (w.alloc (Obj.cells (itA x) 28)) = W at *
  have hWz0 : w.heap.size < W.heap.size := by rw [← hW]; simp only [World.size_alloc]; omega
  have hWa0 : rowAt W (w.heap.size) = itA x := by rw [← hW]; simp [go_sem]
  have hWo0 : rowOk W (w.heap.size) = true := by rw [← hW]; simp [go_sem]
  clear hW
  have hWA := fun w' (h : New W w') n hn => rowAt_below h n hn
  have hWO := fun w' (h : New W w') n hn => rowOk_below h n hn
  have hWS := fun w' (h : New W w') n (hn : n < W.heap.size) => eq_true (Nat.lt_of_lt_of_le hn h.size)
  have hl2 := hl.new hnW
  go_wp2_with (first
    | (go_at_call 10; refine (great_any _ _ _ _).mono ?_; rintro e w1 ⟨rfl, rfl⟩)
    | (at_builtin; refine Kind.wpList_appendN rfl _ _ rfl rfl (Kind.Own.nil (K := KI) (base := W.heap.size)) rfl hl2 (by simp; omega) KI_b (Nat.le_refl _) ?_; intro v0 w1 ho hg; have hr1 : New W w1 := Kind.Own.grown (New.rfl' W) (Kind.Own.nil (K := KI)) hg; clear hg; rw [List.nil_append] at ho; obtain ⟨A0, c0, rfl, hc0, hr0⟩ := ho.rd))
  have hlw := hl2.new hr1
  have hr := New.rfl' w1
  have hq := hr1
  go_wp2_with (first
    | (go_at_call 12; refine (iAdd_any _ _ _ l x _ (hr0.new hr) hc0 (by have := ha1.out; have := ha2.out; have := ha3.out; have := ha4.out; have := ha5.out; omega)).mono ?_; rintro e w2 ⟨va, rfl, hva, hb⟩; obtain ⟨A1, c1, rfl, _, hxa⟩ := hva.rd; have hsa := hva.lt; have hr := hr.call hb; have hq := hr1.call hr; clear hb)
    | (go_at_call 13; refine (refAdd_any _ _ _ l x _ (hlw.new hr) hP (by have := ha1.out; have := ha2.out; have := ha3.out; have := ha4.out; have := ha5.out; omega)).mono ?_; rintro e w3 ⟨vb, rfl, hvb, hb⟩; obtain ⟨A2, c2, rfl, _, hya⟩ := hvb.rd; clear hvb; have hsa3 := fun k h => Nat.lt_of_lt_of_le (hsa k h) hb.size; clear hsa; have hr := hr.call hb; have hq := hr1.call hr; have hz3 := hr.size; have hva := hva.new hb; have hxa := hxa.new hb; clear hb)
    | (go_at_call 14; refine (iChange_any _ _ _ l x _ (hr0.new hr) hc0 (by have := ha1.out; have := ha2.out; have := ha3.out; have := ha4.out; have := ha5.out; omega)).mono ?_; rintro e w4 ⟨vc, rfl, hvc, hb⟩; obtain ⟨A3, c3, rfl, _, hxc⟩ := hvc.rd; have hsc := hvc.lt; have hsa4 := fun k h => Nat.lt_of_lt_of_le (hsa3 k h) hb.size; have hr := hr.call hb; have hq := hr1.call hr; have hva := hva.new hb; have hxa := hxa.new hb; have hya := hya.new hb; clear hb)
    | (go_at_call 15; refine (refChange_any _ _ _ l x _ (hlw.new hr) hP (by have := ha1.out; have := ha2.out; have := ha3.out; have := ha4.out; have := ha5.out; omega)).mono ?_; rintro e w5 ⟨vd, rfl, hvd, hb⟩; obtain ⟨A4, c4, rfl, _, hyc⟩ := hvd.rd; clear hvd; have hsc5 := fun k h => Nat.lt_of_lt_of_le (hsc k h) hb.size; have hsa5 := fun k h => Nat.lt_of_lt_of_le (hsa4 k h) hb.size; clear hsc hsa4; have hr := hr.call hb; have hq := hr1.call hr; have hz5 := hr.size; have hva := hva.new hb; have hvc := hvc.new hb; have hxa := hxa.new hb; have hya := hya.new hb; have hxc := hxc.new hb; clear hb)
    | (go_at_call 16; refine (iDrop_any _ _ _ l x.1 _ (hr0.new hr) hc0 (by have := ha1.out; have := ha2.out; have := ha3.out; have := ha4.out; have := ha5.out; omega)).mono ?_; rintro e w6 ⟨vm, rfl, hvm, hb⟩; obtain ⟨A5, c5, rfl, _, hxm⟩ := hvm.rd; have hr := hr.call hb; have hq := hr1.call hr; have hva := hva.new hb; have hvc := hvc.new hb; have hxa := hxa.new hb; have hya := hya.new hb; have hxc := hxc.new hb; have hyc := hyc.new hb; clear hb)
    | (go_at_call 17; refine (refDrop_any _ _ _ l x.1 _ (hlw.new hr) hc hP (by have := ha1.out; have := ha2.out; have := ha3.out; have := ha4.out; have := ha5.out; omega)).mono ?_; rintro e w7 ⟨vn, rfl, hvn, hb⟩; obtain ⟨A6, c6, rfl, _, hym⟩ := hvn.rd; clear hvn; have hr := hr.call hb; have hq := hr1.call hr; have hva := hva.new hb; have hvc := hvc.new hb; have hvm := hvm.new hb; have hxa := hxa.new hb; have hya := hya.new hb; have hxc := hxc.new hb; have hyc := hyc.new hb; have hxm := hxm.new hb; clear hb)
    | (go_at_call_of 18 A1; refine (refsame_any _ _ _ _ _ _ _ _ _ hxa hya (by have := ha1.out; have := ha2.out; have := ha3.out; have := ha4.out; have := ha5.out; omega) (by have := ha1.out; have := ha2.out; have := ha3.out; have := ha4.out; have := ha5.out; omega)).mono ?_; rintro e w9 ⟨rfl, hb⟩; have hr := hr.call hb; have hq := hr1.call hr; have hva := hva.new hb; have hvc := hvc.new hb; have hvm := hvm.new hb; have hxa := hxa.new hb; have hya := hya.new hb; have hxc := hxc.new hb; have hyc := hyc.new hb; have hxm := hxm.new hb; have hym := hym.new hb; clear hb)
    | (go_at_call_of 18 A3; refine (refsame_any _ _ _ _ _ _ _ _ _ hxc hyc (by have := ha1.out; have := ha2.out; have := ha3.out; have := ha4.out; have := ha5.out; omega) (by have := ha1.out; have := ha2.out; have := ha3.out; have := ha4.out; have := ha5.out; omega)).mono ?_; rintro e w9 ⟨rfl, hb⟩; have hr := hr.call hb; have hq := hr1.call hr; have hva := hva.new hb; have hvc := hvc.new hb; have hvm := hvm.new hb; have hxa := hxa.new hb; have hya := hya.new hb; have hxc := hxc.new hb; have hyc := hyc.new hb; have hxm := hxm.new hb; have hym := hym.new hb; clear hb)
    | (go_at_call_of 18 A5; refine (refsame_any _ _ _ _ _ _ _ _ _ hxm hym (by have := ha1.out; have := ha2.out; have := ha3.out; have := ha4.out; have := ha5.out; omega) (by have := ha1.out; have := ha2.out; have := ha3.out; have := ha4.out; have := ha5.out; omega)).mono ?_; rintro e w9 ⟨rfl, hb⟩; have hr := hr.call hb; have hq := hr1.call hr; have hva := hva.new hb; have hvc := hvc.new hb; have hvm := hvm.new hb; have hxa := hxa.new hb; have hya := hya.new hb; have hxc := hxc.new hb; have hyc := hyc.new hb; have hxm := hxm.new hb; have hym := hym.new hb; clear hb)
    | (go_at_call_of 19 A1; refine (spoil_any _ _ _ _ hva (by have := ha1.out; have := ha2.out; have := ha3.out; have := ha4.out; have := ha5.out; omega)).mono ?_; rintro e w8 ⟨⟨u, rfl⟩, hg⟩; have hr := Kind.Own.grown hr hva hg; have hq := hr1.call hr; have hvc := hvc.past hg hsa3; have hvm := hvm.past hg hsa5; clear hg)
    | (go_at_call_of 19 A3; refine (spoil_any _ _ _ _ hvc (by have := ha1.out; have := ha2.out; have := ha3.out; have := ha4.out; have := ha5.out; omega)).mono ?_; rintro e w8 ⟨⟨u, rfl⟩, hg⟩; have hr := Kind.Own.grown hr (hvc.lower hz3) hg; have hq := hr1.call hr; have hvm := hvm.past hg hsc5; clear hg)
    | (go_at_call_of 19 A5; refine (spoil_any _ _ _ _ hvm (by have := ha1.out; have := ha2.out; have := ha3.out; have := ha4.out; have := ha5.out; omega)).mono ?_; rintro e w8 ⟨⟨u, rfl⟩, hg⟩; have hr := Kind.Own.grown hr (hvm.lower hz5) hg; have hq := hr1.call hr; have hz8 := hr.size; clear hg))
  clear hva hvc hvm
  go_wp2_with (first
    | (go_at_call 20; refine (iIn_any _ _ _ l _ _ (hr0.new hr) (by have := ha1.out; have := ha2.out; have := ha3.out; have := ha4.out; have := ha5.out; omega)).mono ?_; rintro e wk ⟨vk, rfl, hvk, hb⟩; obtain ⟨A7, c7, rfl, _, _⟩ := hvk.rd; have hvk := hvk.lower hr.size; have hr := hr.call hb; have hq := hr1.call hr; clear hb)
    | (go_at_call 19; refine (spoil_any _ _ _ _ hvk (by have := ha1.out; have := ha2.out; have := ha3.out; have := ha4.out; have := ha5.out; omega)).mono ?_; rintro e w8 ⟨⟨u, rfl⟩, hg⟩; have hr := Kind.Own.grown hr hvk hg; have hq := hr1.call hr; clear hg)
    | (go_at_call 18; refine (refsame_any _ _ _ _ _ _ _ _ _ (hr0.new hr) (hlw.new hr) (by have := ha1.out; have := ha2.out; have := ha3.out; have := ha4.out; have := ha5.out; omega) (by have := ha1.out; have := ha2.out; have := ha3.out; have := ha4.out; have := ha5.out; omega)).mono ?_; rintro e w9 ⟨rfl, hb⟩; have hr := hr.call hb; have hq := hr1.call hr; clear hb)
    | (go_at_call 11; refine (lives_i _).mono ?_; rintro e w9 ⟨rfl, hb⟩; have hq := hq.call hb; clear hb))
  go_ret
  exact ⟨rfl, hnW.call hq⟩
end Go.Proofs.Ytkgebhmlogddcaa
