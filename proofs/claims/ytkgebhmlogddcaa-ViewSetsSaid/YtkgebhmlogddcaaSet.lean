/- Contracts: view.Set. -/
import Derived.Test.YtkgebhmlogddcaaInsert
namespace Go.Proofs.Ytkgebhmlogddcaa
open Go.RowKit
set_option linter.unusedSimpArgs false
attribute [local go_sem] rowAt_alloc_at rowAt_alloc_past rowOk_alloc_at rowOk_alloc_past rowAt_drew rowOk_drew setRow_alloc_at setRow_alloc_past rowAt_setRow rowAt_setRow_far rowOk_setRow cell_rowOk frozen_rowOk setCell_rowOk setRow_setRow con_fold con_get con_size con_set set_all none8_cells equalIn_con storeCells_con
attribute [local go_sem] it_size it_0 it_1 it_2 it_3 it_4 it_5 it_6 it_7 it_8 it_9 it_10 it_set0 it_set1 it_set2 it_fold it_zero it_eta it_fill run_storeCells_it
attribute [local go_sem] sn_size sn_0 sn_1 sn_set0 sn_set1 sn_fold sn_eta sn_fill run_storeCells_sn eqg_sn eqg_it
attribute [local go_sem high] equalIn_sn equalIn_it

/-- the view in which an Id has a Seq -/
def setS (l : List Sn) (id s : Int) : List Sn :=
  if risS 0 l then (if id = 0 then l else if hasS l id then l.set (posS l id) (id, s) else l.take (posS l id) ++ [(id, s)] ++ l.drop (posS l id)) else []
theorem posS_le (l : List Sn) (id : Int) : posS l id ≤ l.length := by unfold posS; exact (List.takeWhile_sublist _).length_le

theorem own_seq {w : World} {base n c g p : Nat} {m : List Sn} (h : KS.Own w base (.slice (some ⟨g, 0, none⟩) n c) m) (hp : p < m.length) (s : Int) :
    KS.Own (w.setRow g ((rowAt w g).setIfInBounds (p * 2 + 1) (.int .u64 s))) base (.slice (some ⟨g, 0, none⟩) n c) (m.set p (m[p].1, s)) := by
  obtain ⟨g', eg, _, hlc, _, hg2, hg3⟩ := h.spotK (by omega)
  injection eg with eg
  injection eg with eg _ _
  subst eg
  have h1 := (own_cells h p hp w (New.rfl' w)).1
  rw [cell_rowOk w hg2] at h1
  rw [KS_sz] at hg3
  have e : (rowAt w g).setIfInBounds (p * 2 + 1) (.int .u64 s) = KS.putK (rowAt w g) p (m[p].1, s) := by
    apply Array.ext'
    apply List.ext_getElem?
    intro j
    have ht : (List.take (p * 2) (rowAt w g).toList).length = p * 2 := by rw [List.length_take, Array.length_toList]; omega
    simp only [Kind.putK, KS_sz, KS_enc, snA, Array.toList_setIfInBounds, List.append_assoc]
    rw [List.getElem?_set]
    by_cases j1 : j < p * 2
    · rw [if_neg (by omega), List.getElem?_append_left (by omega), List.getElem?_take, if_pos j1]
    · rw [List.getElem?_append_right (by omega), ht]
      by_cases j2 : j = p * 2
      · subst j2
        rw [if_neg (by omega), Nat.sub_self]
        simpa using h1
      · by_cases j3 : j = p * 2 + 1
        · subst j3
          rw [if_pos rfl, if_pos (by rw [Array.length_toList]; omega), show p * 2 + 1 - p * 2 = 1 by omega]
          rfl
        · rw [if_neg (by omega), List.getElem?_append_right (by simp; omega), List.getElem?_drop]
          congr 1
          simp; omega
  rw [e]
  exact h.putK _ hp

theorem insS_new (v : Value) (l : List Sn) (i : Nat) (x : Sn) (t : TypeId) (w0 w : World) (base : Nat) (hv : KS.Own w base v l) (hi : i ≤ l.length) (hn : l.length ≤ 1000) (h0 : New w0 w) (hb0 : w0.heap.size ≤ base) (hbase : base ≤ w.heap.size) :
    Calls Try.prog 64 #[v, .int .i64 (i : Nat), .slice (some ⟨w.heap.size, 0, none⟩) 1 1] (w.alloc (Obj.cells (snA x) t)) fun e w' => ∃ v', e = .returned v' ∧ KS.Own w' base v' (l.take i ++ [x] ++ l.drop i) ∧ New w0 w' := by
  refine (insS_any v l i x w.heap.size _ base (hv.alloc _) hi hn (by rw [World.size_alloc]; omega) (rowOk_alloc_at w _ _ _ rfl) (rowAt_alloc_at w _ _ _ rfl) (fun e => by have := (World.ownsRow.lt hv _ e).2; omega)).mono ?_
  rintro e w' ⟨v', rfl, h1, h2⟩
  exact ⟨v', rfl, h1, Kind.Own.grown (h0.alloc' _) ((hv.alloc _).lower hb0) h2⟩
set_option maxHeartbeats 1600000 in
set_option maxRecDepth 100000 in
theorem vset_any (A : Option Addr) (n c : Nat) (l : List Sn) (id s : Int) (w : World) (hl : KS.Rd w A n l) (hn : n ≤ 1000) :
    Calls Try.prog 40 #[.slice A n c, .int .u32 id, .int .u64 s] w fun e w' => ∃ v, e = .returned v ∧ KS.Own w' w.heap.size v (setS l id s) ∧ New w w' := by
  obtain rfl : l.length = n := hl.1
  have hA1 := vmay_any A l.length c l
  rcases Bool.eq_false_or_eq_true (risS 0 l) with hm | hm
  · have hris := Lib.hid hm
    have hS : setS l id s = (if id = 0 then l else if hasS l id then l.set (posS l id) (id, s) else l.take (posS l id) ++ [(id, s)] ++ l.drop (posS l id)) := by rw [setS, if_pos hm]
    rw [hm] at hA1
    have HA := Lib.hid hA1
    clear hA1 hm
    have hB1 : ∀ (A : Option Addr) (n c : Nat) (w : World), _ := fun A n c w => vfind_any A n c l id w
    by_cases h0 : id = 0
    · rw [if_pos h0] at hS
      rw [hS]
      subst h0
      clear hS
      have HB := Lib.hid hB1
      clear hB1
      go_enter Try.func40, Try.ntmps40
      go_wp2_with (first
        | (go_at_call 42; refine (HA.out _ hl (by omega)).mono ?_; rintro e w1 ⟨rfl, hb1⟩)
        | (go_at_call 57; refine (cloneS_any _ _ _ l _ (hl.new hb1) hn).mono ?_; rintro e w2 ⟨v, rfl, hv, hb⟩; obtain ⟨A2, c2, rfl, hc2, hr2⟩ := hv.rd; have hb2 := New.call hb1 hb; clear hb)
        | (go_at_call 63; refine (HB.out _ _ _ _ hr2 (by omega) hris.out).mono ?_; rintro e w3 ⟨rfl, hb⟩; have hb3 := New.call hb2 hb; have hv3 := hv.new hb; clear hb))
      go_ret
      exact ⟨_, rfl, hv3.lower hb1.size, hb3⟩
    · rw [if_neg h0] at hS
      rcases Bool.eq_false_or_eq_true (hasS l id) with hh | hh
      · obtain ⟨hp, hid, _⟩ := spos_has l id hris.out hh
        rw [hh] at hS hB1
        rw [if_pos rfl] at hS
        rw [hS, ← hid]
        rw [hid]
        have HB := Lib.hid hB1
        clear hB1 hS hh
        generalize posS l id = p at *
        have HID := Lib.hid hid
        clear hid
        have hp3 : (p : Int) < (l.length : Int) := by omega
        go_enter Try.func40, Try.ntmps40
        go_wp2_with (first
          | (go_at_call 42; refine (HA.out _ hl (by omega)).mono ?_; rintro e w1 ⟨rfl, hb1⟩)
          | (go_at_call 57; refine (cloneS_any _ _ _ l _ (hl.new hb1) hn).mono ?_; rintro e w2 ⟨v, rfl, hv, hb⟩; obtain ⟨A2, c2, rfl, hc2, hr2⟩ := hv.rd; obtain ⟨gg, rfl, _, _, hgb, hg2, hg3⟩ := hv.spotK (by omega); have hb2 := New.call hb1 hb; clear hb)
          | (go_at_call 63; refine (HB.out _ _ _ _ hr2 (by omega) hris.out).mono ?_; rintro e w3 ⟨rfl, hb⟩; have hb3 := New.call hb2 hb; have hv3 := hv.new hb; have hok3 : rowOk w3 gg = true := (by rw [rowOk_below hb gg (rowOk_lt _ hg2)]; exact hg2); have hsz3 : p * 2 + 1 < (rowAt w3 gg).size := (by rw [rowAt_below hb gg (rowOk_lt _ hg2), hg3, KS_sz]; omega); clear hb))
        go_ret
        exact ⟨_, rfl, by have := own_seq hv3 hp s; rw [HID.out] at this; exact this.lower hb1.size, hb3.row _ _ (Nat.le_trans hb1.size hgb)⟩
      · rw [hh] at hS hB1
        rw [if_neg (by simp)] at hS
        rw [hS]
        have HB := Lib.hid hB1
        have hp := posS_le l id
        clear hB1 hS hh
        generalize posS l id = p at *
        go_enter Try.func40, Try.ntmps40
        go_wp2_with (first
          | (go_at_call 42; refine (HA.out _ hl (by omega)).mono ?_; rintro e w1 ⟨rfl, hb1⟩)
          | (go_at_call 57; refine (cloneS_any _ _ _ l _ (hl.new hb1) hn).mono ?_; rintro e w2 ⟨v, rfl, hv, hb⟩; have hz2 := hb.size; obtain ⟨A2, c2, rfl, hc2, hr2⟩ := hv.rd; have hb2 := New.call hb1 hb; clear hb)
          | (go_at_call 63; refine (HB.out _ _ _ _ hr2 (by omega) hris.out).mono ?_; rintro e w3 ⟨rfl, hb⟩; have hb3 := New.call hb2 hb; have hv3 := hv.new hb; have hz3 := Nat.le_trans hz2 hb.size; clear hb)
          | (go_at_call 64; refine (insS_new _ l p (id, s) _ w _ w1.heap.size hv3 hp hn hb3 hb1.size hz3).mono ?_; rintro e w4 ⟨v4, rfl, hv4, hb4⟩))
        go_ret
        exact ⟨_, rfl, hv4.lower hb1.size, hb4⟩
  · have hS : setS l id s = [] := by rw [setS, hm]; rfl
    rw [hm] at hA1
    have HA := Lib.hid hA1
    rw [hS]
    clear hA1 hm hS
    go_enter Try.func40, Try.ntmps40
    go_wp2_with (first
      | (go_at_call 42; refine (HA.out _ hl (by omega)).mono ?_; rintro e w1 ⟨rfl, hb1⟩))
    go_ret
    exact ⟨_, rfl, Kind.Own.nil, hb1⟩
end Go.Proofs.Ytkgebhmlogddcaa
