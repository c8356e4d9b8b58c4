/- The makers of the layer view's iterators. -/
import Derived.Test.YtkgebhmlogddcaaGone
import Derived.Test.YtkgebhmlogddcaaFresh
namespace Go.Proofs.Ytkgebhmlogddcaa
open Go.RowKit Go.Shelf
set_option linter.unusedSimpArgs false
attribute [local go_sem] rowAt_alloc_at rowAt_alloc_past rowOk_alloc_at rowOk_alloc_past rowAt_drew rowOk_drew setRow_alloc_at setRow_alloc_past rowAt_setRow rowAt_setRow_far rowOk_setRow cell_rowOk frozen_rowOk setCell_rowOk setRow_setRow con_fold con_get con_size con_set set_all none8_cells equalIn_con storeCells_con
attribute [local go_sem] it_size it_0 it_1 it_2 it_3 it_4 it_5 it_6 it_7 it_8 it_9 it_10 it_set0 it_set1 it_set2 it_fold it_zero it_eta it_fill run_storeCells_it
attribute [local go_sem] sn_size sn_0 sn_1 sn_set0 sn_set1 sn_fold sn_eta sn_fill run_storeCells_sn eqg_sn eqg_it
attribute [local go_sem high] equalIn_sn equalIn_it

set_option maxHeartbeats 400000 in
theorem gone_any (A : Option Addr) (n c : Nat) (B : Option Addr) (m d : Nat) (w : World) :
    Calls Try.prog 67 #[.slice A n c, .slice B m d] w fun e w' => e = .returned (.func (.func 82) #[] #[.pointer (some ⟨w.heap.size, 0, none⟩), .pointer (some ⟨w.heap.size + 1, 0, none⟩)]) ∧
      w' = (w.alloc (Obj.cells #[.slice A n c] 46)).alloc (Obj.cells #[.slice B m d] 22) := by
  go_enter Try.func67, Try.ntmps67
  go_wp2_with fail
  go_ret
  exact ⟨rfl, rfl⟩
set_option maxHeartbeats 400000 in
theorem fresh_any (A : Option Addr) (n c : Nat) (B : Option Addr) (d : Nat) (l : List It) (gv : Int) (w : World) (hl : KI.Rd w B l.length l) (hlen : l.length ≤ 1000) (hso : SortOk l) :
    Calls Try.prog 68 #[.slice A n c, .slice B l.length d, .int .u8 gv] w fun e w' => ∃ A2 c2 w2, e = .returned (.func (.func 87) #[] #[.pointer (some ⟨w2.heap.size, 0, none⟩), .pointer (some ⟨w.heap.size, 0, none⟩), .pointer (some ⟨w.heap.size + 1, 0, none⟩)]) ∧
      w' = w2.alloc (Obj.cells #[.slice A2 (isort l).length c2] 22) ∧ KI.Own w2 (w.heap.size + 1 + 1 + 1) (.slice A2 (isort l).length c2) (isort l) ∧ New ((w.alloc (Obj.cells #[.slice A n c] 46)).alloc (Obj.cells #[.int .u8 gv] 5)) w2 := by
  go_enter Try.func68, Try.ntmps68
  go_wp2_with (first
    | (go_at_call 84; refine (values_any _ _ _ _).mono ?_; rintro e w1 ⟨rfl, rfl⟩)
    | (go_at_call 83; refine (sorted_any B d _ l hlen hso _ (rowAt_alloc_at _ _ _ _ (by simp only [World.size_alloc])) (rowOk_alloc_at _ _ _ _ (by simp only [World.size_alloc])) (hl.new (by exact (((New.rfl' w).alloc' _).alloc' _).alloc' _))).mono ?_; rintro e w2 ⟨v, rfl, hv2, hb⟩; obtain ⟨A2, c2, rfl, hc2⟩ := hv2.form))
  have hn2 := ((New.rfl' ((w.alloc (Obj.cells #[.slice A n c] 46)).alloc (Obj.cells #[.int .u8 gv] 5))).alloc' (Obj.cells #[.slice B l.length d] 22)).call hb
  simp only [World.size_alloc] at hv2
  go_ret
  exact ⟨A2, c2, w2, rfl, rfl, hv2, hn2⟩
end Go.Proofs.Ytkgebhmlogddcaa
