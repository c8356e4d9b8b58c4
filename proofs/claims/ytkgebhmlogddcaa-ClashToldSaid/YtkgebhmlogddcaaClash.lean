/- Contracts: what becomes of what is done to an item; what lives of it. -/
import Derived.Test.YtkgebhmlogddcaaSn
namespace Go.Proofs.Ytkgebhmlogddcaa
open Go.RowKit
set_option linter.unusedSimpArgs false
attribute [local go_sem] rowAt_alloc_at rowAt_alloc_past rowOk_alloc_at rowOk_alloc_past rowAt_drew rowOk_drew setRow_alloc_at setRow_alloc_past rowAt_setRow rowAt_setRow_far rowOk_setRow cell_rowOk frozen_rowOk setCell_rowOk setRow_setRow con_fold con_get con_size con_set set_all none8_cells equalIn_con storeCells_con

def clOf (kind : Int) (seen : Bool) (was : Int) (there : Bool) (now wins : Int) : Int :=
  if kind ≠ 2 ∧ kind ≠ 3 ∧ kind ≠ 4 then 0 else if seen = false ∨ (there = false ∧ kind ≠ 3) then 1 else if there = false then 5 else if kind = 4 ∨ was = now then 2 else if wins = 1 then 3 else 4
def clSt (what : Int) : Int := if what = 1 then 8 else if what = 4 then 7 else if what = 2 ∨ what = 3 ∨ what = 5 then 1 else 0

set_option maxHeartbeats 800000 in
theorem clof_any (kind : Int) (seen : Bool) (was : Int) (there : Bool) (now wins : Int) (w : World) :
    Calls Try.prog 54 #[.int .u8 kind, .bool seen, .int .u64 was, .bool there, .int .u64 now, .int .u8 wins] w fun e w' => e = .returned (.int .u8 (clOf kind seen was there now wins)) ∧ w = w' := by
  by_cases k2 : kind = 2
  · subst k2
    cases seen <;> cases there
    all_goals
      rcases Bool.eq_false_or_eq_true (was == now) with e1 | e1
      all_goals
        rcases Bool.eq_false_or_eq_true (wins == 1) with e2 | e2
        all_goals
          have E1 := Lib.hid e1
          have E2 := Lib.hid e2
          go_enter Try.func54, Try.ntmps54
          go_wp2_with fail
          go_ret
          have E1 := E1.out
          have E2 := E2.out
          simp only [beq_iff_eq, beq_eq_false_iff_ne] at E1 E2
          exact ⟨by simp [clOf, E1, E2], rfl⟩
  · by_cases k3 : kind = 3
    · subst k3
      cases seen <;> cases there
      all_goals
        rcases Bool.eq_false_or_eq_true (was == now) with e1 | e1
        all_goals
          rcases Bool.eq_false_or_eq_true (wins == 1) with e2 | e2
          all_goals
            have E1 := Lib.hid e1
            have E2 := Lib.hid e2
            go_enter Try.func54, Try.ntmps54
            go_wp2_with fail
            go_ret
            have E1 := E1.out
            have E2 := E2.out
            simp only [beq_iff_eq, beq_eq_false_iff_ne] at E1 E2
            exact ⟨by simp [clOf, E1, E2], rfl⟩
    · by_cases k4 : kind = 4
      · subst k4
        cases seen <;> cases there
        all_goals
          go_enter Try.func54, Try.ntmps54
          go_wp2_with fail
          go_ret
          exact ⟨by simp [clOf], rfl⟩
      · have HK := Lib.hid (And.intro k2 (And.intro k3 k4))
        have b2 : (kind != 2) = true := by simpa using k2
        have b3 : (kind != 3) = true := by simpa using k3
        have b4 : (kind != 4) = true := by simpa using k4
        clear k2 k3 k4
        go_enter Try.func54, Try.ntmps54
        go_wp2_with fail
        go_ret
        exact ⟨by rw [clOf, if_pos HK.out]; rfl, rfl⟩
theorem clof_1 : clOf 2 false 0 true 0 0 = 1 := by decide
theorem clof_2 : clOf 2 true 5 true 5 0 = 2 := by decide
theorem clof_3 : clOf 2 true 5 true 7 0 = 4 := by decide
theorem clof_4 : clOf 2 true 5 true 7 1 = 3 := by decide
theorem clof_5 : clOf 3 true 5 false 0 0 = 5 := by decide
theorem clof_6 : clOf 1 true 5 true 5 0 = 0 := by decide
set_option maxHeartbeats 400000 in
theorem clst_4 (w : World) : Calls Try.prog 55 #[.int .u8 4] w fun e w' => e = .returned (.int .u8 7) ∧ w = w' := by
  go_enter Try.func55, Try.ntmps55
  go_wp2_with fail
  go_ret
  exact ⟨rfl, rfl⟩
attribute [local go_sem] clof_1 clof_2 clof_3 clof_4 clof_5 clof_6
set_option maxHeartbeats 800000 in
theorem lives21 (w : World) : Calls Try.prog 30 #[] w fun e w' => e = .returned (.bool true) ∧ w = w' := by
  go_enter Try.func30, Try.ntmps30
  go_wp2_with (first
    | (go_at_call 54; refine (clof_any _ _ _ _ _ _ _).mono ?_; rintro e w1 ⟨rfl, rfl⟩)
    | (go_at_call 55; refine (clst_4 _).mono ?_; rintro e w1 ⟨rfl, rfl⟩))
  go_ret
  exact ⟨rfl, rfl⟩
set_option maxHeartbeats 400000 in
theorem great21 (A : Option Addr) (n c : Nat) (B : Option Addr) (m d : Nat) (w : World) :
    Calls Try.prog 28 #[.slice A n c, .slice B m d] w fun e w' => e = .returned (.bool (decide (60 < n) || decide (100 < m))) ∧ w = w' := by
  by_cases h1 : 60 < n
  · have d1 : decide ((60 : Int) < (n : Int)) = true := by simp; omega
    have d2 : decide (60 < n) = true := by simpa using h1
    go_enter Try.func28, Try.ntmps28
    go_wp2_with fail
    go_ret
    exact ⟨by rw [d2]; rfl, rfl⟩
  · have d1 : decide ((60 : Int) < (n : Int)) = false := by simp; omega
    have d2 : decide (60 < n) = false := by simpa using h1
    go_enter Try.func28, Try.ntmps28
    go_wp2_with fail
    go_ret
    exact ⟨by rw [d2, Bool.false_or]; congr 3; simp; omega, rfl⟩
end Go.Proofs.Ytkgebhmlogddcaa
