/- Contracts of the reference of the layer item: Drop, Change and Add, whole. -/
import Derived.Test.YtkgebhmlogddcaaItemRef4
namespace Go.Proofs.Ytkgebhmlogddcaa
open Go.RowKit
set_option linter.unusedSimpArgs false
attribute [local go_sem] rowAt_alloc_at rowAt_alloc_past rowOk_alloc_at rowOk_alloc_past rowAt_drew rowOk_drew setRow_alloc_at setRow_alloc_past rowAt_setRow rowAt_setRow_far rowOk_setRow cell_rowOk frozen_rowOk setCell_rowOk setRow_setRow con_fold con_get con_size con_set set_all none8_cells equalIn_con storeCells_con
attribute [local go_sem] it_size it_0 it_1 it_2 it_3 it_4 it_5 it_6 it_7 it_8 it_9 it_10 it_set0 it_set1 it_set2 it_fold it_zero it_eta it_fill run_storeCells_it
attribute [local go_sem high] equalIn_it
attribute [local go_sem] run_storeCells_itp eqg_it

set_option maxHeartbeats 800000 in
set_option maxRecDepth 100000 in
theorem refDrop_ok (A : Option Addr) (n c : Nat) (l : List It) (id : Int) (w : World) (hl : KI.Rd w A n l) (hc : n ≤ c) (hP : PosI l) (hm : mayI l = true) (h3 : hasI l id = true) :
    Calls Try.prog 17 #[.slice A n c, .int .u32 id] w fun e w' => ∃ v, e = .returned (.tuple #[v, .int .i64 0]) ∧ KI.Own w' w.heap.size v (drpI l id) ∧ New w w' := by
  obtain rfl : l.length = n := hl.1
  have h40 := mayI_len l hm
  obtain ⟨hlt, _, _⟩ := pos_has l id (risI_of l hm) h3
  have hA1 := refmay_any A l.length c l
  rw [hm] at hA1
  have HA := Lib.hid hA1
  have hB1 := refplace_any A l.length c l id
  rw [atI_pos l id (risI_of l hm) h3] at hB1
  have HB := Lib.hid hB1
  have hins := Lib.hid (drpI_eq l id)
  clear hA1 hB1 hm h3
  generalize hpp : posI l id = p at *
  have Hpp := Lib.hid hpp
  clear hpp
  have i1 : (p : Int) ≤ (l.length : Int) := by omega
  have i2 : (p : Int) ≤ (c : Int) := by omega
  have i3 : (l.length : Int) ≤ (c : Int) := by omega
  have i4 : (p : Int) + 1 ≤ (l.length : Int) := by omega
  have i5 : (p : Int) + 1 ≤ (c : Int) := by omega
  have iw : IntKind.i64.wrap ((p : Int) + 1) = (p : Int) + 1 := by rw [IntKind.wrap_i64]; omega
  have i0 : (0 : Int) ≤ (p : Int) + 1 := by omega
  by_cases hcp : c = p + 1
  · subst hcp
    have HR := Lib.hid (show ∀ w', New w w' → KI.Rd w' A 0 (l.drop (p + 1)) from fun w' h => by have := (hl.new h).cut (k := p + 1) (by omega) hc; rwa [if_pos rfl, show l.length - (p + 1) = 0 by omega] at this)
    have i6 : (l.length : Int) ≤ (p : Int) + 1 := by omega
    have i7 : (p : Int) ≤ (p : Int) + 1 := by omega
    clear i2 i3 i5
    go_enter Try.func17, Try.ntmps17
    have hwA := fun w' (h : New w w') n hn => rowAt_below h n hn
    have hwO := fun w' (h : New w w') n hn => rowOk_below h n hn
    have hwS := fun w' (h : New w w') n (hn : n < w.heap.size) => eq_true (Nat.lt_of_lt_of_le hn h.size)
    go_wp2_with (first
      | (go_at_call 25; refine (HA.out _ hl (by omega) hP).mono ?_; rintro e w1 ⟨rfl, hb1⟩)
      | (go_at_call 49; refine (HB.out _ (hl.new hb1) (by omega)).mono ?_; rintro e w2 ⟨rfl, hb⟩; have hb2 := New.call hb1 hb; clear hb)
      | (at_builtin; refine Kind.wpList_appendN rfl _ _ rfl rfl (Kind.Own.nil (K := KI) (base := w.heap.size)) rfl ((hl.new hb2).upto (k := p) (by omega)) (by simp; omega) KI_b (by have := hb2.size; omega) ?_; intro v3 w3 hv3 hg3; have hr3 : New w w3 := Kind.Own.grown hb2 (Kind.Own.nil (K := KI)) hg3; clear hg3; rw [List.nil_append] at hv3)
      | (at_builtin; refine Kind.wpList_appendN rfl _ _ rfl rfl hv3 rfl (HR.out _ hr3) (by simp; omega) KI_b (by have := hr3.size; omega) ?_; intro v4 w4 hv4 hg4; have hr4 : New w w4 := Kind.Own.grown hr3 hv3 hg4; clear hg4))
    go_ret2
    exact ⟨_, rfl, by rw [hins.out]; exact hv4, hr4⟩
  · have HR := Lib.hid (show ∀ w', New w w' → KI.Rd w' (Option.map (fun x => x.add ((p + 1) * 11)) A) (l.length - (p + 1)) (l.drop (p + 1)) from fun w' h => by have := (hl.new h).cut (k := p + 1) (by omega) hc; rwa [if_neg hcp] at this)
    go_enter Try.func17, Try.ntmps17
    have hwA := fun w' (h : New w w') n hn => rowAt_below h n hn
    have hwO := fun w' (h : New w w') n hn => rowOk_below h n hn
    have hwS := fun w' (h : New w w') n (hn : n < w.heap.size) => eq_true (Nat.lt_of_lt_of_le hn h.size)
    go_wp2_with (first
      | (go_at_call 25; refine (HA.out _ hl (by omega) hP).mono ?_; rintro e w1 ⟨rfl, hb1⟩)
      | (go_at_call 49; refine (HB.out _ (hl.new hb1) (by omega)).mono ?_; rintro e w2 ⟨rfl, hb⟩; have hb2 := New.call hb1 hb; clear hb)
      | (at_builtin; refine Kind.wpList_appendN rfl _ _ rfl rfl (Kind.Own.nil (K := KI) (base := w.heap.size)) rfl ((hl.new hb2).upto (k := p) (by omega)) (by simp; omega) KI_b (by have := hb2.size; omega) ?_; intro v3 w3 hv3 hg3; have hr3 : New w w3 := Kind.Own.grown hb2 (Kind.Own.nil (K := KI)) hg3; clear hg3; rw [List.nil_append] at hv3)
      | (at_builtin; refine Kind.wpList_appendN rfl _ _ rfl rfl hv3 rfl (HR.out _ hr3) (by simp; omega) KI_b (by have := hr3.size; omega) ?_; intro v4 w4 hv4 hg4; have hr4 : New w w4 := Kind.Own.grown hr3 hv3 hg4; clear hg4))
    go_ret2
    exact ⟨_, rfl, by rw [hins.out]; exact hv4, hr4⟩

theorem chgI_set (l : List It) (x : It) (h : posI l x.1 < l.length) : chgI l x = l.set (posI l x.1) x := by
  rw [chgI, List.set_eq_take_append_cons_drop, if_pos h]; simp
set_option maxHeartbeats 1600000 in
set_option maxRecDepth 100000 in
theorem refChange_ok (A : Option Addr) (n c : Nat) (l : List It) (x : It) (w : World) (hl : KI.Rd w A n l) (hP : PosI l) (hm : mayI l = true) (h2 : (x.2.1 == 0) = false) (h3 : hasI l x.1 = true) :
    Calls Try.prog 15 #[.slice A n c, .agg (itA x)] w fun e w' => ∃ v, e = .returned (.tuple #[v, .int .i64 0]) ∧ KI.Own w' w.heap.size v (chgI l x) ∧ New w w' := by
  obtain rfl : l.length = n := hl.1
  have h40 := mayI_len l hm
  obtain ⟨hlt, _, _⟩ := pos_has l x.1 (risI_of l hm) h3
  rw [chgI_set l x hlt]
  have hA1 := refmay_any A l.length c l
  rw [hm] at hA1
  have HA := Lib.hid hA1
  have hB1 := refplace_any A l.length c l x.1
  rw [atI_pos l x.1 (risI_of l hm) h3] at hB1
  have HB := Lib.hid hB1
  clear hA1 hB1 hm h3
  generalize posI l x.1 = p at *
  have i1 : (p : Int) < (l.length : Int) := by omega
  go_enter Try.func15, Try.ntmps15
  go_wp2_with fail
  have hnW : New w (w.alloc (Obj.cells (itA x) 28)) := (New.rfl' w).alloc' _
  generalize hW : (w.alloc (Obj.cells (itA x) 28)) = W at *
  have hWz0 : w.heap.size < W.heap.size := by rw [← hW]; simp only [World.size_alloc]; omega
  have hWa0 : rowAt W (w.heap.size) = itA x := by rw [← hW]; simp [go_sem]
  have hWo0 : rowOk W (w.heap.size) = true := by rw [← hW]; simp [go_sem]
  clear hW
  have hWA := fun w' (h : New W w') n hn => rowAt_below h n hn
  have hWO := fun w' (h : New W w') n hn => rowOk_below h n hn
  have hWS := fun w' (h : New W w') n (hn : n < W.heap.size) => eq_true (Nat.lt_of_lt_of_le hn h.size)
  have hl2 := hl.new hnW
  go_wp2_with (first
      | (go_at_call 25; refine (HA.out _ hl2 (by omega) hP).mono ?_; rintro e w1 ⟨rfl, hb1⟩)
      | (go_at_call 49; refine (HB.out _ (hl2.new hb1) (by omega)).mono ?_; rintro e w2 ⟨rfl, hb⟩; have hb2 := New.call hb1 hb; clear hb)
      | (at_builtin; refine Kind.wpList_appendN rfl _ _ rfl rfl (Kind.Own.nil (K := KI) (base := W.heap.size)) rfl (hl2.new hb2) (by simp; omega) KI_b hb2.size ?_; intro v3 w3 hv3 hg3; have hr3 : New W w3 := Kind.Own.grown hb2 (Kind.Own.nil (K := KI)) hg3; clear hg3; rw [List.nil_append] at hv3; obtain ⟨A3, c3, rfl, hc3⟩ := hv3.form; obtain ⟨g, rfl, _, hg1, hg2, hg3⟩ := hv3.spot (by omega); have hg4 : p * 11 + 11 ≤ (rowAt w3 g).size := by omega))
  go_ret2
  have hz := hnW.size
  exact ⟨_, rfl, (hv3.put x hlt).lower hz, (hnW.call hr3).row _ _ (by omega)⟩
end Go.Proofs.Ytkgebhmlogddcaa
