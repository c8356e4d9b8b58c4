/- The law of layer 19: lives. -/
import Derived.Test.YtkgebhmlogddcaaItemLaw
namespace Go.Proofs.Ytkgebhmlogddcaa
open Go.RowKit
set_option linter.unusedSimpArgs false
attribute [local go_sem] rowAt_alloc_at rowAt_alloc_past rowOk_alloc_at rowOk_alloc_past rowAt_drew rowOk_drew setRow_alloc_at setRow_alloc_past rowAt_setRow rowAt_setRow_far rowOk_setRow cell_rowOk frozen_rowOk setCell_rowOk setRow_setRow con_fold con_get con_size con_set set_all none8_cells equalIn_con storeCells_con
attribute [local go_sem] it_size it_0 it_1 it_2 it_3 it_4 it_5 it_6 it_7 it_8 it_9 it_10 it_set0 it_set1 it_set2 it_fold it_zero it_eta it_fill run_storeCells_it
attribute [local go_sem high] equalIn_it

def L3 : List It := [(2, 1, 0, none8), (4, 1, 0, none8), (5, 3, 0, none8)]
def L1 : List It := [(5, 3, 0, none8)]
theorem addI_4 : addI L2 (4, 1, itZ.2.2) = (L3, 0) := by rfl
theorem addI_5 : addI L2 (5, 1, itZ.2.2) = ([], 8) := by rfl
theorem changeI_9 : changeI L2 (9, 1, itZ.2.2) = ([], 7) := by rfl
theorem dropI_2 : dropI L2 2 = (L1, 0) := by rfl
theorem inI_3 : inI L2 3 = L1 := by rfl
theorem own_two {w : World} {base : Nat} {v : Value} (h : KI.Own w base v L2) : ∃ A c, v = .slice A 2 c ∧ 2 ≤ c ∧ KI.Rd w A 2 L2 := h.rd
theorem own_nil {w : World} {base : Nat} {v : Value} (h : KI.Own w base v []) : ∃ A c, v = .slice A 0 c := by obtain ⟨A, c, h, _⟩ := h.rd; exact ⟨A, c, h⟩
theorem own_3 {w : World} {base : Nat} {v : Value} (h : KI.Own w base v L3) : ∃ b o c, v = .slice (some ⟨b, o, none⟩) 3 c ∧ ∀ w', New w w' → w'.cell? ⟨b, o + 11, none⟩ = some (.int .u32 4) := by
  obtain ⟨A, c, rfl, _, hr⟩ := h.rd
  obtain ⟨b, o, rfl, hb, hc⟩ := hr.2 (by decide)
  exact ⟨b, o, c, rfl, fun w' hw => (hw.cell (p := ⟨b, _, none⟩) hb).trans ((hc 1 (by decide) 0 (by decide)).trans rfl)⟩
theorem own_1 {w : World} {base : Nat} {v : Value} (h : KI.Own w base v L1) : ∃ b o c, v = .slice (some ⟨b, o, none⟩) 1 c ∧ ∀ w', New w w' → w'.cell? ⟨b, o, none⟩ = some (.int .u32 5) := by
  obtain ⟨A, c, rfl, _, hr⟩ := h.rd
  obtain ⟨b, o, rfl, hb, hc⟩ := hr.2 (by decide)
  refine ⟨b, o, c, rfl, fun w' hw => (hw.cell (p := ⟨b, _, none⟩) hb).trans ?_⟩
  have := hc 0 (by decide) 0 (by decide)
  simp only [Nat.zero_mul, Nat.add_zero] at this
  exact this.trans rfl

theorem add4_any (A : Option Addr) (c : Nat) (w : World) (hrd : KI.Rd w A 2 L2) (hc : 2 ≤ c) : Calls Try.prog 12 #[.slice A 2 c, .agg (itA (4, 1, itZ.2.2))] w fun e w' =>
    ∃ b o c', e = .returned (.tuple #[.slice (some ⟨b, o, none⟩) 3 c', .int .i64 0]) ∧ (∀ w2, New w' w2 → w2.cell? ⟨b, o + 11, none⟩ = some (.int .u32 4)) ∧ New w w' := by
  refine (iAdd_any _ _ _ L2 (4, 1, itZ.2.2) _ hrd hc (by decide)).mono ?_
  rintro e w1 ⟨v, rfl, hv, hb⟩
  rw [addI_4] at hv ⊢
  obtain ⟨b, o, c, rfl, hr⟩ := own_3 hv
  exact ⟨b, o, c, rfl, hr, hb⟩
theorem add5_any (A : Option Addr) (c : Nat) (w : World) (hrd : KI.Rd w A 2 L2) (hc : 2 ≤ c) : Calls Try.prog 12 #[.slice A 2 c, .agg (itA (5, 1, itZ.2.2))] w fun e w' =>
    ∃ A' c', e = .returned (.tuple #[.slice A' 0 c', .int .i64 8]) ∧ New w w' := by
  refine (iAdd_any _ _ _ L2 (5, 1, itZ.2.2) _ hrd hc (by decide)).mono ?_
  rintro e w1 ⟨v, rfl, hv, hb⟩
  rw [addI_5] at hv ⊢
  obtain ⟨A', c', rfl⟩ := own_nil hv
  exact ⟨A', c', rfl, hb⟩
theorem change9_any (A : Option Addr) (c : Nat) (w : World) (hrd : KI.Rd w A 2 L2) (hc : 2 ≤ c) : Calls Try.prog 14 #[.slice A 2 c, .agg (itA (9, 1, itZ.2.2))] w fun e w' =>
    ∃ A' c', e = .returned (.tuple #[.slice A' 0 c', .int .i64 7]) ∧ New w w' := by
  refine (iChange_any _ _ _ L2 (9, 1, itZ.2.2) _ hrd hc (by decide)).mono ?_
  rintro e w1 ⟨v, rfl, hv, hb⟩
  rw [changeI_9] at hv ⊢
  obtain ⟨A', c', rfl⟩ := own_nil hv
  exact ⟨A', c', rfl, hb⟩
theorem drop2_any (A : Option Addr) (c : Nat) (w : World) (hrd : KI.Rd w A 2 L2) (hc : 2 ≤ c) : Calls Try.prog 16 #[.slice A 2 c, .int .u32 2] w fun e w' =>
    ∃ A' c', e = .returned (.tuple #[.slice A' 1 c', .int .i64 0]) ∧ New w w' := by
  refine (iDrop_any _ _ _ L2 2 _ hrd hc (by decide)).mono ?_
  rintro e w1 ⟨v, rfl, hv, hb⟩
  rw [dropI_2] at hv ⊢
  obtain ⟨b, o, c', rfl, _⟩ := own_1 hv
  exact ⟨_, c', rfl, hb⟩
theorem in3_any (A : Option Addr) (c : Nat) (w : World) (hrd : KI.Rd w A 2 L2) : Calls Try.prog 20 #[.slice A 2 c, .int .u32 3] w fun e w' =>
    ∃ b o c', e = .returned (.slice (some ⟨b, o, none⟩) 1 c') ∧ (∀ w2, New w' w2 → w2.cell? ⟨b, o, none⟩ = some (.int .u32 5)) ∧ New w w' := by
  refine (iIn_any _ _ _ L2 3 _ hrd (by decide)).mono ?_
  rintro e w1 ⟨v, rfl, hv, hb⟩
  rw [inI_3] at hv
  obtain ⟨b, o, c', rfl, hr⟩ := own_1 hv
  exact ⟨b, o, c', rfl, hr, hb⟩

set_option maxHeartbeats 1600000 in
set_option maxRecDepth 100000 in
theorem lives_i (w : World) : Calls Try.prog 11 #[] w fun e w' => e = .returned (.bool true) ∧ New w w' := by
  have hN := New.rfl' w
  have hS : ∀ w' : World, New w w' → True := fun _ _ => trivial
  go_enter Try.func11, Try.ntmps11
  go_wp2_with (first
    | (go_at_call 46; refine (two_any _).mono ?_; rintro e w1 ⟨v, rfl, hv, hb⟩; obtain ⟨A1, c1, rfl, hc, hrd⟩ := own_two hv; clear hv; have hN := hN.call hb; have hS := fun w' h => hS w' (New.call hb h); clear hb)
    | (go_at_call_of 12 (4 : Int); refine (add4_any _ _ _ hrd hc).mono ?_; rintro e w1 ⟨b3, o3, c3, rfl, hr3, hb⟩; have hN := hN.call hb; have hS := hr3; clear hb)
    | (go_at_call 12; refine (add5_any _ _ _ hrd hc).mono ?_; rintro e w1 ⟨A5, c5, rfl, hb⟩; have hN := hN.call hb; have hS := fun w' h => hS w' (New.call hb h); clear hb)
    | (go_at_call 14; refine (change9_any _ _ _ hrd hc).mono ?_; rintro e w1 ⟨A9, c9, rfl, hb⟩; have hN := hN.call hb; have hS := fun w' h => hS w' (New.call hb h); clear hb)
    | (go_at_call 16; refine (drop2_any _ _ _ hrd hc).mono ?_; rintro e w1 ⟨A2, c2, rfl, hb⟩; have hN := hN.call hb; have hS := fun w' h => hS w' (New.call hb h); clear hb)
    | (go_at_call 20; refine (in3_any _ _ _ hrd).mono ?_; rintro e w1 ⟨b1, o1, c1', rfl, hr1, hb⟩; have hN := hN.call hb; have hx := hS w1 hb; have hy := hr1 _ (New.rfl' _); clear hb))
  go_ret
  exact ⟨rfl, hN⟩
end Go.Proofs.Ytkgebhmlogddcaa
