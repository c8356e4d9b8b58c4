/- The law ViewSets, walked. -/
import Derived.Test.YtkgebhmlogddcaaVLaw
import Derived.Test.YtkgebhmlogddcaaRefSet
namespace Go.Proofs.Ytkgebhmlogddcaa
open Go.RowKit
set_option linter.unusedSimpArgs false
attribute [local go_sem] rowAt_alloc_at rowAt_alloc_past rowOk_alloc_at rowOk_alloc_past rowAt_drew rowOk_drew setRow_alloc_at setRow_alloc_past rowAt_setRow rowAt_setRow_far rowOk_setRow cell_rowOk frozen_rowOk setCell_rowOk setRow_setRow con_fold con_get con_size con_set set_all none8_cells equalIn_con storeCells_con
attribute [local go_sem] it_size it_0 it_1 it_2 it_3 it_4 it_5 it_6 it_7 it_8 it_9 it_10 it_set0 it_set1 it_set2 it_fold it_zero it_eta it_fill run_storeCells_it
attribute [local go_sem] sn_size sn_0 sn_1 sn_set0 sn_set1 sn_fold sn_eta sn_fill run_storeCells_sn eqg_sn eqg_it
attribute [local go_sem high] equalIn_sn equalIn_it

set_option maxHeartbeats 3200000 in
set_option maxRecDepth 100000 in
theorem vsets_i (A : Option Addr) (n c : Nat) (v : List Sn) (id s : Int) (w : World) (hv : KS.Rd w A n v) (hP : PosS v) :
    Calls Try.prog 8 #[.slice A n c, .int .u32 id, .int .u64 s] w fun e w' => e = .returned (.bool true) ∧ New w w' := by
  obtain rfl : v.length = n := hv.1
  by_cases h1 : 100 < v.length
  · have hd : decide (100 < v.length) = true := by simpa using h1
    go_enter Try.func8, Try.ntmps8
    go_wp2_with (first
      | (go_at_call 37; refine (great20 _ _ _ _ _ _ _ _ _ _).mono ?_; rintro e w1 ⟨rfl, rfl⟩; simp only [hd, Bool.true_or])
      | (go_at_call 38; refine (lives20 _).mono ?_; rintro e w1 ⟨rfl, hb⟩))
    go_ret
    exact ⟨rfl, hb⟩
  have hd : decide (100 < v.length) = false := by simpa using h1
  have hd2 : (decide (100 < v.length) || decide (60 < 0) || decide (100 < 0)) = false := by rw [hd]; rfl
  have hn : v.length ≤ 100 := by omega
  have hsl : (setS v id s).length ≤ 1000 := by have := setS_len v id s; omega
  have hdl : (dropS v id).length ≤ 1000 := by have := dropS_len v id; omega
  have hW := New.rfl' w
  go_enter Try.func8, Try.ntmps8
  go_wp2_with (first
    | (go_at_call 37; refine (great20 _ _ _ _ _ _ _ _ _ _).mono ?_; rintro e w1 ⟨rfl, rfl⟩; simp only [hd2])
    | (at_builtin; refine Kind.wpList_appendN rfl _ _ rfl rfl (Kind.Own.nil (K := KS) (base := w.heap.size)) rfl hv (by simp; omega) KS_b (Nat.le_refl _) ?_; intro v0 w1 ho hg; have hr1 : New w w1 := Kind.Own.grown (New.rfl' w) (Kind.Own.nil (K := KS)) hg; clear hg; rw [List.nil_append] at ho; obtain ⟨A0, c0, rfl, hc0, hr0⟩ := ho.rd; have hr := New.rfl' w1; have hv1 := hv.new hr1)
    | (go_at_call_of 39 A0; refine (vof_any _ _ _ v _ _ (hr0.new hr) (by omega)).mono ?_; rintro e w2 ⟨rfl, hb⟩; have hr := hr.call hb; clear hb)
    | (go_at_call 31; refine (rvof_any _ _ _ v _ _ (hv1.new hr) (by omega) hP).mono ?_; rintro e w2 ⟨rfl, hb⟩; have hr := hr.call hb; clear hb)
    | (go_at_call 40; refine (vset_any _ _ _ v _ _ _ (hr0.new hr) (by omega)).mono ?_; rintro e w2 ⟨ux, rfl, hx, hb⟩; obtain ⟨A1, c1, rfl, _, hxr⟩ := hx.rd; have hxs := hx.lt; have hx := hx.lower hr.size; have hr := hr.call hb; have hz2 := hr.size; clear hb)
    | (go_at_call 41; refine (vdrop_any _ _ _ v _ _ (hr0.new hr) (by omega)).mono ?_; rintro e w3 ⟨uy, rfl, hy, hb⟩; obtain ⟨A2, c2, rfl, _, hyr⟩ := hy.rd; have hr := hr.call hb; have hx := hx.new hb; have hxr := hxr.new hb; have hz3 := hr.size; clear hb)
    | (go_at_call 42; refine (vmay_any _ _ _ v _ (hr0.new hr) (by omega)).mono ?_; rintro e w4 ⟨rfl, hb⟩; have hr := hr.call hb; have hx := hx.new hb; have hxr := hxr.new hb; have hy := hy.new hb; have hyr := hyr.new hb; clear hb)
    | (go_at_call 29; refine (rvmay_any _ _ _ v _ (hv1.new hr) (by omega) hP).mono ?_; rintro e w4 ⟨rfl, hb⟩; have hr := hr.call hb; have hx := hx.new hb; have hxr := hxr.new hb; have hy := hy.new hb; have hyr := hyr.new hb; clear hb)
    | (go_at_call 43; refine (rvset_any _ _ _ v _ _ _ (hv1.new hr) (by omega) hP).mono ?_; rintro e w4 ⟨ur, rfl, hq, hb⟩; obtain ⟨A3, c3, rfl, _, hxq⟩ := hq.rd; clear hq; have hr := hr.call hb; have hx := hx.new hb; have hxr := hxr.new hb; have hy := hy.new hb; have hyr := hyr.new hb; clear hb)
    | (go_at_call 35; refine (rvdrop_any _ _ _ v _ _ (hv1.new hr) (by omega) hP).mono ?_; rintro e w4 ⟨ur, rfl, hq, hb⟩; obtain ⟨A4, c4, rfl, _, hyq⟩ := hq.rd; clear hq; have hr := hr.call hb; have hx := hx.new hb; have hxr := hxr.new hb; have hy := hy.new hb; have hyr := hyr.new hb; clear hb)
    | (go_at_call_of 34 A1; refine (rvsame_any _ _ _ _ _ _ _ _ _ hxr hxq (by omega) (by omega)).mono ?_; rintro e w9 ⟨rfl, hb⟩; have hr := hr.call hb; have hx := hx.new hb; have hxr := hxr.new hb; have hy := hy.new hb; have hyr := hyr.new hb; clear hb)
    | (go_at_call_of 34 A2; refine (rvsame_any _ _ _ _ _ _ _ _ _ hyr hyq (by omega) (by omega)).mono ?_; rintro e w10 ⟨rfl, hb⟩; have hr := hr.call hb; have hx := hx.new hb; have hy := hy.new hb; clear hb))
  generalize setS v id s = X at *
  generalize dropS v id = Y at *
  go_loopw [14] (fun i wr => ∃ k : Nat, k ≤ X.length ∧ i = .int .i64 k ∧ w10.grownBy wr (Value.slice A1 X.length c1).ownBlock ∧ ∃ l' : List Sn, l'.length = X.length ∧ KS.Own wr w1.heap.size (.slice A1 X.length c1) l') (fun i _ => X.length - (intOf i).toNat)
  case atStart => exact ⟨0, by omega, rfl, World.grownBy.refl _ _, X, rfl, hx⟩
  case round =>
    obtain ⟨k, hk, rfl, hg, l', hll, hx'⟩ := hrel
    by_cases hlt : k < X.length
    · obtain ⟨g, eg, -, -, -, hok, hsz⟩ := hx'.spotK (by omega)
      subst eg
      rw [KS_sz] at hsz
      have hgA := hg
      have hs2 : k * 2 + 2 ≤ (rowAt wr g).size := by omega
      have hst : (storeCells ⟨g, k * 2, none⟩ (snA (0, 0)).toList).run Try.prog wr = .ok () (wr.setRow g (KS.putK (rowAt wr g) k (0, 0))) := Kind.run_storeCells_k KS wr g k (0, 0) hok hs2
      have hp : KS.Own (wr.setRow g (KS.putK (rowAt wr g) k (0, 0))) w1.heap.size (.slice (some ⟨g, 0, none⟩) X.length c1) (l'.set k (0, 0)) := Kind.Own.putK hx' (0, 0) (by omega)
      go_wp2_with fail
      go_roundw
      case rel => exact ⟨k + 1, by omega, by go_num, hgA.trans (grown_setRow wr g _), l'.set k (0, 0), by rw [List.length_set]; exact hll, hp⟩
      case measure => simp [intOf]; omega
    · have hy2 := hy.past hg hxs
      have hrX := Kind.Own.grown hr hx hg
      clear hg hx' hx hll
      go_wp2_with fail
      generalize wr = wq at *
      go_wp2_with fail

      go_loopw [15] (fun i wr => ∃ k : Nat, k ≤ Y.length ∧ i = .int .i64 k ∧ wq.grownBy wr (Value.slice A2 Y.length c2).ownBlock ∧ ∃ l' : List Sn, l'.length = Y.length ∧ KS.Own wr w2.heap.size (.slice A2 Y.length c2) l') (fun i _ => Y.length - (intOf i).toNat)
      case atStart => exact ⟨0, by omega, rfl, World.grownBy.refl _ _, Y, rfl, hy2⟩
      case round =>
        obtain ⟨k, hk, rfl, hg, l', hll, hx'⟩ := hrel
        by_cases hlt : k < Y.length
        · obtain ⟨g, eg, -, -, -, hok, hsz⟩ := hx'.spotK (by omega)
          subst eg
          rw [KS_sz] at hsz
          have hgA := hg
          have hs2 : k * 2 + 2 ≤ (rowAt wr g).size := by omega
          have hst : (storeCells ⟨g, k * 2, none⟩ (snA (0, 0)).toList).run Try.prog wr = .ok () (wr.setRow g (KS.putK (rowAt wr g) k (0, 0))) := Kind.run_storeCells_k KS wr g k (0, 0) hok hs2
          have hp : KS.Own (wr.setRow g (KS.putK (rowAt wr g) k (0, 0))) w2.heap.size (.slice (some ⟨g, 0, none⟩) Y.length c2) (l'.set k (0, 0)) := Kind.Own.putK hx' (0, 0) (by omega)
          go_wp2_with fail
          go_roundw
          case rel => exact ⟨k + 1, by omega, by go_num, hgA.trans (grown_setRow wr g _), l'.set k (0, 0), by rw [List.length_set]; exact hll, hp⟩
          case measure => simp [intOf]; omega
        · have hrY := Kind.Own.grown hrX (hy2.lower hz2) hg
          clear hg hx' hll
          have hqY := hr1.call hrY
          go_wp2_with (first
            | (go_at_call 34; refine (rvsame_any _ _ _ _ _ _ _ _ _ (hr0.new hrY) (hv1.new hrY) (by omega) (by omega)).mono ?_; rintro e w12 ⟨rfl, hb⟩; have hqY := hqY.call hb; clear hb)
            | (go_at_call 38; refine (lives20 _).mono ?_; rintro e w13 ⟨rfl, hb⟩; have hqY := hqY.call hb; clear hb))
          go_ret
          exact ⟨rfl, hqY⟩
end Go.Proofs.Ytkgebhmlogddcaa
