/- The small functions of the law of layer 19: two, great, spoil, lives. -/
import Derived.Test.YtkgebhmlogddcaaItemRef6
namespace Go.Proofs.Ytkgebhmlogddcaa
open Go.RowKit
set_option linter.unusedSimpArgs false
attribute [local go_sem] rowAt_alloc_at rowAt_alloc_past rowOk_alloc_at rowOk_alloc_past rowAt_drew rowOk_drew setRow_alloc_at setRow_alloc_past rowAt_setRow rowAt_setRow_far rowOk_setRow cell_rowOk frozen_rowOk setCell_rowOk setRow_setRow con_fold con_get con_size con_set set_all none8_cells equalIn_con storeCells_con
attribute [local go_sem] it_size it_0 it_1 it_2 it_3 it_4 it_5 it_6 it_7 it_8 it_9 it_10 it_set0 it_set1 it_set2 it_fold it_zero it_eta it_fill run_storeCells_it
attribute [local go_sem high] equalIn_it
attribute [local go_sem] run_storeCells_itp eqg_it

def L2 : List It := [(2, 1, 0, none8), (5, 3, 0, none8)]
set_option maxHeartbeats 400000 in
theorem two_any (w : World) : Calls Try.prog 46 #[] w fun e w' => ∃ v, e = .returned v ∧ KI.Own w' w.heap.size v L2 ∧ New w w' := by
  go_enter Try.func46, Try.ntmps46
  go_wp2
  go_ret
  refine ⟨_, rfl, ?_, (New.rfl' w).alloc' _⟩
  have h : ∀ cs : Array Value, cs.toList = KI.flat L2 → cs.size = 22 → KI.Own (w.alloc (Obj.cells cs KI.e)) w.heap.size (.slice (some ⟨w.heap.size, 0, none⟩) 2 2) L2 := by
    intro cs h1 h2
    have h3 := World.ownsRow_lit (base := w.heap.size) (e := KI.e) (size := 11) w cs 2 (Nat.le_refl _) (by decide) (by omega)
    rw [h1] at h3
    exact h3
  exact h _ (by kernel_rfl) (by kernel_rfl)

set_option maxHeartbeats 400000 in
theorem great_any (A : Option Addr) (n c : Nat) (w : World) : Calls Try.prog 10 #[.slice A n c] w fun e w' => e = .returned (.bool (decide (100 < n))) ∧ w = w' := by
  by_cases h : 100 < n
  · have h' : (100 : Int) < (n : Int) := by omega
    rw [decide_eq_true h]
    go_enter Try.func10, Try.ntmps10
    go_wp2
    go_ret
    exact ⟨rfl, rfl⟩
  · have h' : ¬ (100 : Int) < (n : Int) := by omega
    rw [decide_eq_false h]
    go_enter Try.func10, Try.ntmps10
    go_wp2
    go_ret
    exact ⟨rfl, rfl⟩

theorem grown_setRow (w : World) (g : Nat) (cs : Array Value) : w.grownBy (w.setRow g cs) (some g) :=
  ⟨rfl, rfl, rfl, by simp [size_setRow'], fun k _ hk => setRow_other w g k cs (fun e => hk (by rw [e]))⟩
/-- a row of the call's own stays where another one of its own is changed -/
theorem Kind.Own.past {α : Type} {K : Kind α} {W W1 : World} {b : Nat} {u v : Value} {l : List α} (hu : K.Own W b u l) (hg : W.grownBy W1 v.ownBlock) (hv : ∀ k, v.ownBlock = some k → k < b) : K.Own W1 b u l := by
  refine World.ownsRow.kept hu hg ?_
  cases hub : u.ownBlock with
  | none => exact Or.inl rfl
  | some g =>
    refine Or.inr fun e => ?_
    have h1 := hv g e.symm
    have h2 := (World.ownsRow.lt hu g hub).1
    omega
theorem Kind.Own.lt {α : Type} {K : Kind α} {W : World} {b : Nat} {u : Value} {l : List α} (hu : K.Own W b u l) : ∀ k, u.ownBlock = some k → k < W.heap.size := fun k hk => (World.ownsRow.lt hu k hk).2
set_option maxHeartbeats 800000 in
theorem spoil_any (v : Value) (l : List It) (base : Nat) (w : World) (hv : KI.Own w base v l) (hn : l.length ≤ 1048576) :
    Calls Try.prog 19 #[v] w fun e w' => (∃ u, e = .returned u) ∧ w.grownBy w' v.ownBlock := by
  obtain ⟨A, c, rfl, hc⟩ := hv.form
  go_enter Try.func19, Try.ntmps19
  go_wp2_with fail
  go_loopw [2] (fun i wr => ∃ k : Nat, k ≤ l.length ∧ i = .int .i64 k ∧ w.grownBy wr (Value.slice A l.length c).ownBlock ∧ ∃ l' : List It, l'.length = l.length ∧ KI.Own wr base (.slice A l.length c) l') (fun i _ => l.length - (intOf i).toNat)
  case atStart => exact ⟨0, by omega, rfl, ⟨rfl, rfl, rfl, Nat.le_refl _, fun _ _ _ => rfl⟩, l, rfl, hv⟩
  case round =>
    obtain ⟨k, hk, rfl, hg, l', hll, hv'⟩ := hrel
    by_cases hlt : k < l.length
    · obtain ⟨g, rfl, -, hg1, hg2, hg3⟩ := hv'.spot (by omega)
      have hg4 : k * 11 + 11 ≤ (rowAt wr g).size := by omega
      go_wp2_with fail
      go_roundw
      case rel =>
        refine ⟨k + 1, by omega, by go_num, hg.trans (grown_setRow wr g _), l'.set k (77, itZ.2), by rw [List.length_set]; exact hll, ?_⟩
        exact hv'.put (77, itZ.2) (by omega)
      case measure => simp [intOf]; omega
    · go_wp2_with fail
      go_end0
      exact ⟨⟨_, rfl⟩, hg⟩
end Go.Proofs.Ytkgebhmlogddcaa
