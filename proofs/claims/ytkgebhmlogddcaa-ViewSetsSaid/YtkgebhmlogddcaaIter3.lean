/- slices.Values, Collect, SortStableFunc (fewer than 20), SortedStableFunc at items. -/
import Derived.Test.YtkgebhmlogddcaaIter2
namespace Go.Proofs.Ytkgebhmlogddcaa
open Go.RowKit Go.Shelf
set_option linter.unusedSimpArgs false
attribute [local go_sem] rowAt_alloc_at rowAt_alloc_past rowOk_alloc_at rowOk_alloc_past rowAt_drew rowOk_drew setRow_alloc_at setRow_alloc_past rowAt_setRow rowAt_setRow_far rowOk_setRow cell_rowOk frozen_rowOk setCell_rowOk setRow_setRow con_fold con_get con_size con_set set_all none8_cells equalIn_con storeCells_con
attribute [local go_sem] it_size it_0 it_1 it_2 it_3 it_4 it_5 it_6 it_7 it_8 it_9 it_10 it_set0 it_set1 it_set2 it_fold it_zero it_eta it_fill run_storeCells_it

set_option maxHeartbeats 400000 in
theorem values_any (A : Option Addr) (n c : Nat) (w : World) :
    Calls Try.prog 84 #[.slice A n c] w fun e w' => e = .returned (.func (.func 95) #[] #[.pointer (some ⟨w.heap.size, 0, none⟩)]) ∧ w' = w.alloc (Obj.cells #[.slice A n c] 22) := by
  go_enter Try.func84, Try.ntmps84
  go_wp2_with fail
  go_ret
  exact ⟨rfl, rfl⟩
theorem aseqv_any (A : Option Addr) (c Bs : Nat) (zs : List It) (hlen : zs.length ≤ 1000) (w : World) (hB : rowAt w Bs = #[.slice A zs.length c]) (hok : rowOk w Bs = true) (hz : KI.Rd w A zs.length zs) :
    Calls Try.prog 98 #[.slice none 0 0, .func (.func 95) #[] #[.pointer (some ⟨Bs, 0, none⟩)]] w fun e W' => ∃ v, e = .returned v ∧ KI.Own W' w.heap.size v zs ∧ New w W' := by
  refine (callsIn_wide (n := 5)).1 ?_
  refine aseq_in _ 5 trivial rfl (by omega) _ _ trivial (enters_of Try.func95 (by kernel_rfl) rfl) zs hlen w ?_
  intro l J Jx W hW hJ _ hY h0
  have hlt := rowOk_lt w hok
  exact ivals_in _ _ trivial rfl (by omega) l Bs w.heap.size A c zs hlen J Jx W w hJ hY (by rw [rowAt_below hW Bs hlt]; exact hB) (by rw [rowOk_below hW Bs hlt]; exact hok) hz (Nat.le_refl _) hW hW.size h0
set_option maxHeartbeats 400000 in
theorem collect_any (A : Option Addr) (c Bs : Nat) (zs : List It) (hlen : zs.length ≤ 1000) (w : World) (hB : rowAt w Bs = #[.slice A zs.length c]) (hok : rowOk w Bs = true) (hz : KI.Rd w A zs.length zs) :
    Calls Try.prog 93 #[.func (.func 95) #[] #[.pointer (some ⟨Bs, 0, none⟩)]] w fun e W' => ∃ v, e = .returned v ∧ KI.Own W' w.heap.size v zs ∧ New w W' := by
  go_enter Try.func93, Try.ntmps93
  go_wp2_with (first
    | (go_at_call 98; refine (aseqv_any A c Bs zs hlen _ hB hok hz).mono ?_; rintro e w1 ⟨v, rfl, hv, hb⟩))
  go_ret
  exact ⟨_, rfl, hv, hb⟩
set_option maxHeartbeats 400000 in
theorem inssort_nil (w : World) : Calls Try.prog 100 #[.slice none 0 0, .int .i64 0, .int .i64 0, .func (.func 85) #[] #[]] w fun e w' => e = .returned (.tuple #[]) ∧ w' = w := by
  go_enter Try.func100, Try.ntmps100
  go_wp2_with fail
  go_loopw [8] (fun i wr => i = .int .i64 1 ∧ wr = w) (fun _ _ => 0)
  case atStart => exact ⟨rfl, rfl⟩
  case round =>
    obtain ⟨rfl, rfl⟩ := hrel
    go_wp2_with fail
    go_end0
    exact ⟨rfl, rfl⟩
theorem inssort_all (v : Value) (l : List It) (w : World) (base : Nat) (h : KI.Own w base v l) (hn : l.length ≤ 1000) :
    Calls Try.prog 100 #[v, .int .i64 0, .int .i64 (l.length : Nat), .func (.func 85) #[] #[]] w fun e w' => e = .returned (.tuple #[]) ∧ KI.Own w' base v (isort l) ∧ w.grownBy w' v.ownBlock := by
  have hs : sortSeg l 0 l.length = isort l := by simp [sortSeg]
  obtain ⟨A, c, rfl, hc⟩ := h.form
  rcases Nat.eq_zero_or_pos l.length with h0 | h0
  · have hl : l = [] := List.eq_nil_of_length_eq_zero h0
    subst hl
    rcases h.2 with ⟨hv, _⟩ | ⟨g, cap, cur, hv, _⟩
    · injection hv with e1 e2 e3
      subst e1; subst e3
      refine (inssort_nil w).mono ?_
      rintro e w' ⟨rfl, rfl⟩
      exact ⟨rfl, h, World.grownBy.refl _ _⟩
    · injection hv with e1 e2 e3
      subst e1; subst e3
      have := inssort_any [] 0 0 g c w base h (Nat.le_refl _) (Nat.le_refl _) (by simp)
      rw [show sortSeg [] 0 0 = isort [] from rfl] at this
      exact this
  · obtain ⟨g, rfl, _⟩ := h.spotK h0
    have := inssort_any l 0 l.length g c w base h (Nat.zero_le _) (Nat.le_refl _) hn
    rw [hs] at this
    exact this
set_option maxHeartbeats 400000 in
theorem stable_small (v : Value) (l : List It) (w : World) (base : Nat) (h : KI.Own w base v l) (hn : l.length < 20) :
    Calls Try.prog 99 #[v, .int .i64 (l.length : Nat), .func (.func 85) #[] #[]] w fun e w' => e = .returned (.tuple #[]) ∧ KI.Own w' base v (isort l) ∧ w.grownBy w' v.ownBlock := by
  have h1 : ¬ (20 : Int) ≤ (l.length : Int) := by omega
  have h2 : ¬ (20 : Int) < (l.length : Int) := by omega
  have HS := Lib.hid (inssort_all v l w base h (by omega))
  go_enter Try.func99, Try.ntmps99
  go_wp2_with fail
  go_loopw [7, 8] (fun a b wr => a = .int .i64 0 ∧ b = .int .i64 20 ∧ wr = w) (fun _ _ _ => 0)
  case atStart => exact ⟨rfl, rfl, rfl⟩
  case round =>
    obtain ⟨rfl, rfl, rfl⟩ := hrel
    go_wp2_with (first
      | (go_at_call 100; refine HS.out.mono ?_; rintro e w1 ⟨rfl, hv1, hg1⟩))
    go_loopw [6] (fun s wr => s = .int .i64 20 ∧ wr = w1) (fun _ _ => 0)
    case atStart => exact ⟨rfl, rfl⟩
    case round =>
      obtain ⟨rfl, rfl⟩ := hrel
      go_wp2_with fail
      go_end0
      exact ⟨rfl, hv1, hg1⟩
/-- the contract of the stable sort, at a list -/
def SortOk (l : List It) : Prop := ∀ (v : Value) (w : World) (base : Nat), KI.Own w base v l →
  Calls Try.prog 99 #[v, .int .i64 (l.length : Nat), .func (.func 85) #[] #[]] w fun e w' => e = .returned (.tuple #[]) ∧ KI.Own w' base v (isort l) ∧ w.grownBy w' v.ownBlock
theorem sortOk_small (l : List It) (hn : l.length < 20) : SortOk l := fun v w base h => stable_small v l w base h hn
end Go.Proofs.Ytkgebhmlogddcaa
