/- Contracts: slices.Clone at operations, view.First, view.Told. -/
import Derived.Test.YtkgebhmlogddcaaSet
import Derived.Test.YtkgebhmlogddcaaOp
import Derived.Test.YtkgebhmlogddcaaItem2
import Derived.Lib.MinMax
namespace Go.Proofs.Ytkgebhmlogddcaa
open Go.RowKit
set_option linter.unusedSimpArgs false
attribute [local go_sem] rowAt_alloc_at rowAt_alloc_past rowOk_alloc_at rowOk_alloc_past rowAt_drew rowOk_drew setRow_alloc_at setRow_alloc_past rowAt_setRow rowAt_setRow_far rowOk_setRow cell_rowOk frozen_rowOk setCell_rowOk setRow_setRow con_fold con_get con_size con_set set_all none8_cells equalIn_con storeCells_con
attribute [local go_sem] it_size it_0 it_1 it_2 it_3 it_4 it_5 it_6 it_7 it_8 it_9 it_10 it_set0 it_set1 it_set2 it_fold it_zero it_eta it_fill run_storeCells_it
attribute [local go_sem] sn_size sn_0 sn_1 sn_set0 sn_set1 sn_fold sn_eta sn_fill run_storeCells_sn eqg_sn eqg_it
attribute [local go_sem high] equalIn_sn equalIn_it
attribute [local go_sem] run_eql_slice_nil op_size op_0 op_1 op_2 op_3 op_4 op_5 op_6 op_7 op_8 op_9 op_10 op_11 op_con op_fold op_eta run_storeCells_op

set_option maxHeartbeats 800000 in
set_option maxRecDepth 100000 in
theorem cloneO_any (A : Option Addr) (n c : Nat) (l : List Opr) (w : World) (hl : KO.Rd w A n l) (hn : n ≤ 1000) :
    Calls Try.prog 76 #[.slice A n c] w fun e w' => ∃ v, e = .returned v ∧ KO.Own w' w.heap.size v l ∧ New w w' := by
  obtain rfl : l.length = n := hl.1
  cases A with
  | none =>
    have hm : l = [] := by
      cases l with
      | nil => rfl
      | cons x m => obtain ⟨b, o, h, _⟩ := hl.2 (by simp); cases h
    subst hm
    go_enter Try.func76, Try.ntmps76
    go_wp2_with fail
    go_ret
    exact ⟨_, rfl, Kind.Own.nil, New.rfl' w⟩
  | some ad =>
    go_enter Try.func76, Try.ntmps76
    go_wp2_with (first
      | (at_builtin; refine Kind.wpList_appendN rfl _ _ rfl rfl (Kind.Own.empty KO w) rfl (hl.alloc _) (by simp; omega) KO_b (by simp only [World.size_alloc]; omega) ?_; intro v' w2 hv hg; have hr : New w w2 := Kind.Own.grown ((New.rfl' w).alloc' _) (Kind.Own.empty KO w) hg; rw [List.nil_append] at hv; clear hg))
    go_ret
    exact ⟨_, rfl, hv, hr⟩

/-- how many are the first ones -/
def firstN (wd : Int) (n : Nat) : Nat := min wd.toNat n
set_option maxHeartbeats 800000 in
set_option maxRecDepth 100000 in
theorem first_any (A : Option Addr) (n c : Nat) (l : List Opr) (wd : Int) (w : World) (hl : KO.Rd w A n l) (hc : n ≤ c) (hn : n ≤ 1000) :
    Calls Try.prog 62 #[.slice A n c, .int .i64 wd] w fun e w' => ∃ v, e = .returned (.tuple #[v, .bool (decide (firstN wd n < n))]) ∧ KO.Own w' w.heap.size v (l.take (firstN wd n)) ∧ New w w' := by
  obtain rfl : l.length = n := hl.1
  have hk : firstN wd l.length ≤ l.length := Nat.min_le_right _ _
  have hR := fun w' (h : New w w') => (hl.new h).upto (k := firstN wd l.length) hk
  have hmm : min (max wd 0) (l.length : Int) = ((firstN wd l.length : Nat) : Int) := by unfold firstN; omega
  have hdec : decide ((firstN wd l.length : Int) < (l.length : Int)) = decide (firstN wd l.length < l.length) := by simp
  generalize firstN wd l.length = k at *
  go_enter Try.func62, Try.ntmps62
  go_wp2_with (first
    | (go_at_call 76; refine (cloneO_any _ _ _ (l.take k) _ (hR _ (New.rfl' w)) (by omega)).mono ?_; rintro e w1 ⟨v, rfl, hv, hb⟩))
  go_ret2
  exact ⟨_, rfl, hv, hb⟩
end Go.Proofs.Ytkgebhmlogddcaa
