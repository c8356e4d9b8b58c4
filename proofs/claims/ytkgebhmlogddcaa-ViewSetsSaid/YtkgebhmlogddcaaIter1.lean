/- An iterator over items: slices.Values. -/
import Derived.RangeFuncNested
import Derived.RangeFuncBound
import Derived.RangeFuncCalls
import Derived.RangeFuncLeaves
import Derived.RangeFuncBox
import Derived.Shelf.Abstract
import Derived.Shelf.RegionOpen
import Derived.WalkKit
import Derived.OwnWalkIn
import Derived.TacticsInMore
import Derived.LoopNIn
import Derived.LoopIn
import Derived.Test.YtkgebhmlogddcaaSort2
namespace Go.Proofs.Ytkgebhmlogddcaa
open Go.RowKit Go.Shelf
set_option linter.unusedSimpArgs false
attribute [local go_sem] Oper.semAt_some
attribute [local go_sem] rowAt_alloc_at rowAt_alloc_past rowOk_alloc_at rowOk_alloc_past rowAt_drew rowOk_drew setRow_alloc_at setRow_alloc_past rowAt_setRow rowAt_setRow_far rowOk_setRow cell_rowOk frozen_rowOk setCell_rowOk setRow_setRow con_fold con_get con_size con_set set_all none8_cells equalIn_con storeCells_con
attribute [local go_sem] it_size it_0 it_1 it_2 it_3 it_4 it_5 it_6 it_7 it_8 it_9 it_10 it_set0 it_set1 it_set2 it_fold it_zero it_eta it_fill run_storeCells_it

set_option maxRecDepth 100000 in
set_option maxHeartbeats 2000000 in
theorem ivals_in (F : Fence) (n : Nat) (hf : F.fn 95) (hro : F.round = none) (hn : 1 ≤ n) (l Bs n₀ : Nat) (A : Option Addr) (c : Nat) (zs : List It) (hlen : zs.length ≤ 1000) (J Jx : List It → World → Prop) (W w0 : World) (hJ : AbidesFrom W.heap.size J)
    (hY : ∀ pre x W1, J pre W1 → pre.length < zs.length → YieldAt F (n - 1) Try.prog l #[.agg (itA x)] W1 fun e W' =>
      (e = .returned (.bool true) ∧ J (pre ++ [x]) W' ∧ Below n₀ W1 W') ∨ (e = .returned (.bool false) ∧ Jx (pre ++ [x]) W'))
    (hBs : rowAt W Bs = #[.slice A zs.length c]) (hok : rowOk W Bs = true) (hz : KI.Rd w0 A zs.length zs) (hn0 : w0.heap.size ≤ n₀) (h0W : New w0 W) (hnW : n₀ ≤ W.heap.size) (h0 : J [] W) :
    CallsIn F n Try.prog 95 #[.func (.yield l) #[] #[], .pointer (some ⟨Bs, 0, none⟩)] W fun e W' => (∃ v, e = .returned v) ∧
      ((∃ ys, ys = zs ∧ J ys W') ∨ (∃ pre, pre <+: zs ∧ Jx pre W')) := by
  have hBlt := rowOk_lt W hok
  refine callsIn_of_wp Try.func95 rfl hf ?_ hro
  simp only [Try.ntmps95, List.size_toArray, List.length_cons, List.length_nil, Nat.reduceAdd, Nat.reduceSub, Array.replicate_succ, Array.replicate_zero, List.push_toArray, List.append_toArray, List.nil_append, List.cons_append]
  gi_wp2
  gi_loopw [7] (fun i wr => ∃ k : Nat, k ≤ zs.length ∧ i = .int .i64 k ∧ J (zs.take k) wr ∧ Below n₀ W wr ∧ AbidesFrom W.heap.size J) (fun i _ => zs.length - (intOf i).toNat)
  case atStart => exact ⟨0, Nat.zero_le _, rfl, h0, Below.refl _ _, hJ⟩
  case round =>
    obtain ⟨k, hk, rfl, hJs, hnx, hJ⟩ := hrel
    have hnw : New w0 wr := h0W.trans (hnx.mono hn0)
    by_cases hlt : k < zs.length
    · have hz2 := hz
      obtain ⟨bhz, ohz, rfl, hbhz, hchz⟩ := hz.2 (by omega)
      have hrhz : ∀ w', New w0 w' → ∀ k (hk : k < zs.length), w'.cell? ⟨bhz, ohz + k * 11, none⟩ = (itA zs[k])[0]? := fun w' hw k hk => (hw.cell (p := ⟨bhz, _, none⟩) hbhz).trans (hchz k hk 0 (by decide))
      have hshz : ∀ w', New w0 w' → ∀ k (hk : k < zs.length) j, j < 11 → w'.cell? ⟨bhz, ohz + k * 11 + j, none⟩ = (itA zs[k])[j]? := fun w' hw k hk j hj => (hw.cell (p := ⟨bhz, _, none⟩) hbhz).trans (hchz k hk j hj)
      clear hchz
      have hJ' : J (zs.take k) (wr.alloc (Obj.cells (itA zs[k]) 28)) := hJ _ _ _ none hJs (World.grownBy_alloc _ _ none) (fun r e => by cases e)
      obtain ⟨fn, tmps, assign, body, hy, hR⟩ := hY (zs.take k) zs[k] _ hJ' (by rw [List.length_take]; omega)
      gi_wp2
      refine hR.mono ?_
      rintro e W3 (⟨rfl, hJ3, hk3⟩ | ⟨rfl, hJx3⟩)
      · gi_wp2
        go_roundw
        case rel => exact ⟨k + 1, by omega, by simp, by rw [List.take_succ_eq_append_getElem hlt]; exact hJ3, (hnx.alloc (Nat.le_trans hnW hnx.size) _).trans hk3, hJ⟩
        case measure => simp [intOf]; omega
      · gi_wp2
        refine bodyPost_ret (results_none rfl _ _ _) rfl ?_
        exact ⟨⟨_, rfl⟩, .inr ⟨_, by rw [← List.take_succ_eq_append_getElem hlt]; exact List.take_prefix _ _, hJx3⟩⟩
    · gi_wp2
      go_end0
      rw [List.take_of_length_le (by omega)] at hJs
      exact ⟨⟨_, rfl⟩, .inl ⟨_, rfl, hJs⟩⟩
end Go.Proofs.Ytkgebhmlogddcaa
