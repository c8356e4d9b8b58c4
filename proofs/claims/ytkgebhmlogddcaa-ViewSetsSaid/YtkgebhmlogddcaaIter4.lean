/- SortStableFunc, SortedStableFunc at items (fewer than 20); view.only, view.fresh. -/
import Derived.Test.YtkgebhmlogddcaaIter3
import Derived.Test.YtkgebhmlogddcaaGhostM
namespace Go.Proofs.Ytkgebhmlogddcaa
open Go.RowKit Go.Shelf
set_option linter.unusedSimpArgs false
attribute [local go_sem] rowAt_alloc_at rowAt_alloc_past rowOk_alloc_at rowOk_alloc_past rowAt_drew rowOk_drew setRow_alloc_at setRow_alloc_past rowAt_setRow rowAt_setRow_far rowOk_setRow cell_rowOk frozen_rowOk setCell_rowOk setRow_setRow con_fold con_get con_size con_set set_all none8_cells equalIn_con storeCells_con
attribute [local go_sem] it_size it_0 it_1 it_2 it_3 it_4 it_5 it_6 it_7 it_8 it_9 it_10 it_set0 it_set1 it_set2 it_fold it_zero it_eta it_fill run_storeCells_it

set_option maxHeartbeats 400000 in
theorem sortst_any (v : Value) (l : List It) (w : World) (base : Nat) (h : KI.Own w base v l) (hn : SortOk l) :
    Calls Try.prog 94 #[v, .func (.func 85) #[] #[]] w fun e w' => e = .returned (.tuple #[]) ∧ KI.Own w' base v (isort l) ∧ w.grownBy w' v.ownBlock := by
  have HS := Lib.hid (hn v w base h)
  obtain ⟨A, c, rfl, hc⟩ := h.form
  go_enter Try.func94, Try.ntmps94
  go_wp2_with (first
    | (go_at_call 99; refine HS.out.mono ?_; rintro e w1 ⟨rfl, hv1, hg1⟩))
  go_end0
  exact ⟨rfl, hv1, hg1⟩
set_option maxHeartbeats 400000 in
theorem sorted_any (A : Option Addr) (c Bs : Nat) (zs : List It) (hlen : zs.length ≤ 1000) (hso : SortOk zs) (w : World) (hB : rowAt w Bs = #[.slice A zs.length c]) (hok : rowOk w Bs = true) (hz : KI.Rd w A zs.length zs) :
    Calls Try.prog 83 #[.func (.func 95) #[] #[.pointer (some ⟨Bs, 0, none⟩)], .func (.func 85) #[] #[]] w fun e W' => ∃ v, e = .returned v ∧ KI.Own W' w.heap.size v (isort zs) ∧ New w W' := by
  go_enter Try.func83, Try.ntmps83
  go_wp2_with (first
    | (go_at_call 93; refine (collect_any A c Bs zs hlen _ hB hok hz).mono ?_; rintro e w1 ⟨v, rfl, hv, hb⟩)
    | (go_at_call 94; refine (sortst_any v zs _ _ hv hso).mono ?_; rintro e w2 ⟨rfl, hv2, hg⟩; have hb2 := Kind.Own.grown hb hv hg))
  go_ret
  exact ⟨_, rfl, hv2, hb2⟩

theorem only_byte (m : Int) (p : Nat) (m0 : 0 ≤ m) (m1 : m < 256) (hp : p < 8) : (bits BinOp.and IntKind.u8 m (2 ^ p % 256) == 0) = !bit m p := by
  have h := byte_bit m.toNat (by omega) p hp
  rw [show ((m.toNat : Nat) : Int) = m from by omega] at h
  have h2 : (bits BinOp.and IntKind.u8 m (2 ^ p % 256) != 0) = bit m p := h
  rw [← h2]; simp [bne]
set_option maxHeartbeats 800000 in
theorem vonly_any (f : Con) (gi : Int) (w : World) (g0 : 0 ≤ gi) (g1 : gi < 256) :
    Calls Try.prog 88 #[.agg (con f), .int .u8 gi] w fun e w' => e = .returned (.agg (con (mg none8 f gi false 0))) ∧ Below w.heap.size w w' := by
  generalize hM0 : mg none8 f gi false 0 = M
  have HM := Lib.hid hM0
  clear hM0
  go_enter Try.func88, Try.ntmps88
  go_wp2
  go_loopw [6] (fun i wr => ∃ k : Nat, k ≤ 8 ∧ i = .int .i64 k ∧ wr = (w.alloc (Obj.cells (con (stage k M f)) 26)).alloc (Obj.cells (con none8) 26)) (fun i _ => 8 - (intOf i).toNat)
  case atStart => exact ⟨0, by omega, rfl, by rw [stage_zero]⟩
  case round =>
    obtain ⟨k, hk, rfl, rfl⟩ := hrel
    by_cases hlt : k < 8
    · have HN := Lib.hid (stage_succ M f k hlt)
      have HC := Lib.hid (stage_get M f k hlt)
      have HG := Lib.hid (show M[k] = _ from by rw [← HM.out, mg_get _ _ _ _ _ _ hlt, mg1])
      have hbb := only_byte gi k g0 g1 hlt
      generalize hS0 : stage k M f = S at *
      have HS := Lib.hid hS0
      clear hS0
      rcases Bool.eq_false_or_eq_true (bit gi k) with hb | hb
      all_goals
        rw [hb] at hbb
        simp only [Bool.not_true, Bool.not_false] at hbb
        go_wp2_with fail
        go_roundw
        case rel => exact ⟨k + 1, by omega, by go_num, by rw [HN.out, HG.out, hb]; first | rfl | (simp only [if_true]; rw [set_same _ _ _ _ HC.out]) | (simp only [Bool.false_eq_true, if_false, Bool.and_false, Bool.false_and]; simp [none8])⟩
        case measure => simp [intOf]; omega
    · rw [show stage k M f = M from by obtain rfl : k = 8 := by omega
                                       exact stage_eight _ _]
      go_wp2
      first
      | exact bodyPost_ret (results_con rfl _ _ (w.heap.size + 1) M rfl (by simp [go_sem]) (by simp [go_sem])) rfl ⟨rfl, ((New.rfl' w).alloc' _).alloc' _⟩
      | (go_ret; exact ⟨rfl, ((New.rfl' w).alloc' _).alloc' _⟩)
end Go.Proofs.Ytkgebhmlogddcaa
