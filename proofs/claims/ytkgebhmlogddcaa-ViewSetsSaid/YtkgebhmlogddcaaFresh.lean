/- An iterator of the layer view: the items that the view has not, or as they were. -/
import Derived.Test.YtkgebhmlogddcaaGone
import Derived.Test.YtkgebhmlogddcaaIter4
import Derived.Stop.RegionWithIn
import Derived.Test.YtkgebhmlogddcaaHeldIn
namespace Go.Proofs.Ytkgebhmlogddcaa
open Go.RowKit Go.Shelf
set_option linter.unusedSimpArgs false
attribute [local go_sem] Oper.semAt_some
attribute [local go_sem] rowAt_alloc_at rowAt_alloc_past rowOk_alloc_at rowOk_alloc_past rowAt_drew rowOk_drew setRow_alloc_at setRow_alloc_past rowAt_setRow rowAt_setRow_far rowOk_setRow cell_rowOk frozen_rowOk setCell_rowOk setRow_setRow con_fold con_get con_size con_set set_all none8_cells equalIn_con storeCells_con
attribute [local go_sem] it_size it_0 it_1 it_2 it_3 it_4 it_5 it_6 it_7 it_8 it_9 it_10 it_set0 it_set1 it_set2 it_fold it_zero it_eta it_fill run_storeCells_it
attribute [local go_sem] sn_size sn_0 sn_1 sn_set0 sn_set1 sn_fold sn_eta sn_fill run_storeCells_sn eqg_sn eqg_it
attribute [local go_sem high] equalIn_sn equalIn_it
attribute [local go_sem] op_size op_0 op_1 op_2 op_3 op_4 op_5 op_6 op_7 op_8 op_9 op_10 op_11 op_con op_fold op_fold0 op_fillz op_set0 op_set1 op_set2 op_set3 op_ne op_fillC op_eta run_storeCells_op it_extr

def newP (v : List Sn) (x : It) : Bool := !toldP v x
theorem yield_bool {m l : Nat} {args : Array Value} {W : World} {p q : World → Prop}
    (h : YieldAt Fence.wide m Try.prog l args W fun e W' => (e = .returned (.bool true) ∧ p W') ∨ (e = .returned (.bool false) ∧ q W')) :
    YieldAt Fence.wide m Try.prog l args W fun e W' => ∃ b : Bool, e = .returned (.bool b) ∧ ((b = true ∧ p W') ∨ (b = false ∧ q W')) := by
  obtain ⟨fn, tmps, assign, body, hy, hR⟩ := h
  refine ⟨fn, tmps, assign, body, hy, hR.mono ?_⟩
  rintro e W' (⟨rfl, h⟩ | ⟨rfl, h⟩)
  · exact ⟨true, rfl, .inl ⟨rfl, h⟩⟩
  · exact ⟨false, rfl, .inr ⟨rfl, h⟩⟩
set_option maxRecDepth 100000 in
set_option maxHeartbeats 4000000 in
theorem fresh2_in (n : Nat) (hn : 1 ≤ n) (ll Bs Bv Bg n₀ gR cR : Nat) (A : Option Addr) (c : Nat) (v : List Sn) (R : List It) (gv : Int) (g0 : 0 ≤ gv) (g1 : gv < 256) (hlv : v.length ≤ 1000) (hlR : R.length ≤ 1000) (J Jx : List Opr → World → Prop) (W w0 : World) (hJ : AbidesFrom W.heap.size J)
    (hY : ∀ pre x W1, J pre W1 → pre.length < ((R.filter (newP v)).map (putO v gv)).length → YieldAt Fence.wide (n - 1) Try.prog ll #[.agg (opA x)] W1 fun e W' =>
      (e = .returned (.bool true) ∧ J (pre ++ [x]) W' ∧ KpL n₀ [Bv, Bg, gR] W1 W') ∨ (e = .returned (.bool false) ∧ Jx (pre ++ [x]) W'))
    (hBs : rowAt W Bs = #[.slice (some ⟨gR, 0, none⟩) R.length cR]) (hoks : rowOk W Bs = true) (hBv : rowAt W Bv = #[.slice A v.length c]) (hokv : rowOk W Bv = true) (hBg : rowAt W Bg = #[.int .u8 gv]) (hokg : rowOk W Bg = true) (hokR : rowOk W gR = true)
    (hcR : ∀ k (hk : k < R.length) j, j < 11 → (rowAt W gR)[k * 11 + j]? = (itA R[k])[j]?)
    (hv : KS.Rd w0 A v.length v) (hn0 : w0.heap.size ≤ n₀) (h0W : New w0 W) (hnW : n₀ ≤ W.heap.size) (h0 : J [] W) :
    CallsIn Fence.wide n Try.prog 87 #[.func (.yield ll) #[] #[], .pointer (some ⟨Bs, 0, none⟩), .pointer (some ⟨Bv, 0, none⟩), .pointer (some ⟨Bg, 0, none⟩)] W fun e W' => (∃ v, e = .returned v) ∧
      ((∃ ys, ys = (R.filter (newP v)).map (putO v gv) ∧ J ys W') ∨ (∃ pre, pre <+: (R.filter (newP v)).map (putO v gv) ∧ Jx pre W')) := by
  have hBlt := rowOk_lt W hoks
  have hvlt := rowOk_lt W hokv
  have hglt := rowOk_lt W hokg
  have hRlt := rowOk_lt W hokR
  refine callsIn_of_wp Try.func87 rfl trivial ?_ rfl
  simp only [Try.ntmps87, List.size_toArray, List.length_cons, List.length_nil, Nat.reduceAdd, Nat.reduceSub, Array.replicate_succ, Array.replicate_zero, List.push_toArray, List.append_toArray, List.nil_append, List.cons_append]
  gi_wp2
  gi_loopw [12] (fun i wr => ∃ k : Nat, k ≤ R.length ∧ i = .int .i64 k ∧ J (((R.take k).filter (newP v)).map (putO v gv)) wr ∧ KpL n₀ [Bv, Bg, gR] W wr ∧ W.heap.size ≤ wr.heap.size) (fun i _ => R.length - (intOf i).toNat)
  case atStart => exact ⟨0, Nat.zero_le _, rfl, h0, KpL.refl _ _ _, Nat.le_refl _⟩
  case round =>
    obtain ⟨k, hk, rfl, hJs, hnx, hsz⟩ := hrel
    have hnw : New w0 wr := h0W.trans (hnx.1.mono hn0)
    obtain ⟨hv1, hv2⟩ := hnx.row (by simp) hokv
    rw [hBv] at hv2
    obtain ⟨hgg1, hgg2⟩ := hnx.row (by simp) hokg
    rw [hBg] at hgg2
    obtain ⟨hR1, hR2⟩ := hnx.row (by simp) hokR
    have hv3 : Bv < wr.heap.size := rowOk_lt wr hv1
    have hgg3 : Bg < wr.heap.size := rowOk_lt wr hgg1
    have hR3 : gR < wr.heap.size := rowOk_lt wr hR1
    have hbs : ∀ b ∈ [Bv, Bg, gR], b < wr.heap.size := by simp; omega
    by_cases hlt : k < R.length
    · have hcell : ∀ j, j < 11 → wr.cell? ⟨gR, k * 11 + j, none⟩ = (itA R[k])[j]? := fun j hj => by rw [cell_rowOk wr hR1, hR2]; exact hcR k hlt j hj
      have hcell0 : wr.cell? ⟨gR, k * 11, none⟩ = (itA R[k])[0]? := hcell 0 (by omega)
      have hst := map_filter_step (putO v gv) (newP v) R k hlt
      have hlen1 := mf_len (putO v gv) (newP v) R k hlt
      have hpre1 := mf_pre (putO v gv) (newP v) R (k + 1)
      have hD1 := vof_any A v.length c v R[k].1
      have hnp : newP v R[k] = !((findS v R[k].1).isSome && ((findS v R[k].1).getD 0 == R[k].2.2.1)) := rfl
      have hpo : putO v gv R[k] = (if (findS v R[k].1).isSome then 2 else 1, 0, R[k].1, gv, mg none8 R[k].2.2.2 gv false 0) := rfl
      generalize (findS v R[k].1).isSome = it at *
      generalize (findS v R[k].1).getD 0 = sv at *
      generalize R[k] = x at *
      have hl2 := hv.new (hnw.alloc' (Obj.cells (itA x) 28))
      have hHD := Lib.hid hD1
      have hst2 := Lib.hid hst
      have hlen2 := Lib.hid hlen1
      have hpre2 := Lib.hid hpre1
      have hnp2 := Lib.hid hnp
      have hpo2 := Lib.hid hpo
      clear hst hlen1 hpre1 hD1 hnp hpo
      cases it
      · simp only [Bool.false_and, Bool.not_false, Bool.false_eq_true, if_false] at hnp2 hpo2
        gi_wp2_with (first
          | (refine ⟨trivial, ?_⟩; gi_at_call 39; refine (callsIn_wide.2 (hHD.out _ hl2 (by omega))).mono ?_; rintro e w1 ⟨rfl, hb⟩; have hA1 := rowAt_below hb wr.heap.size (by simp); have hO1 := rowOk_below hb wr.heap.size (by simp); simp only [rowAt_alloc_at _ _ _ _ rfl, rowOk_alloc_at _ _ _ _ rfl] at hA1 hO1; have hz1 : wr.heap.size < w1.heap.size := (by have := hb.size; simp only [World.size_alloc] at this; omega); have hG1 : rowAt w1 Bg = #[.int .u8 gv] := (by rw [rowAt_below hb Bg (by simp only [World.size_alloc]; omega), rowAt_alloc_past wr _ _ hgg3, hgg2]); have hG2 : rowOk w1 Bg = true := (by rw [rowOk_below hb Bg (by simp only [World.size_alloc]; omega), rowOk_alloc_past wr _ _ hgg3]; exact hgg1); have hr1 : New wr w1 := ((New.rfl' wr).alloc' (Obj.cells (itA x) 28)).call hb))
        have hS0 : (fun w' : World => rowAt w' wr.heap.size = itA x ∧ rowOk w' wr.heap.size = true ∧ rowAt w' Bg = #[.int .u8 gv] ∧ rowOk w' Bg = true ∧ New wr w' ∧ wr.heap.size < w'.heap.size) w1.drew := ⟨hA1, hO1, hG1, hG2, New.drew' hr1, hz1⟩
        refine region_anyS (fun w' : World => rowAt w' wr.heap.size = itA x ∧ rowOk w' wr.heap.size = true ∧ rowAt w' Bg = #[.int .u8 gv] ∧ rowOk w' Bg = true ∧ New wr w' ∧ wr.heap.size < w'.heap.size) [10, 11] (by kernel_rfl) ?_
        refine anyS_take 0 [10, 11] (v := .func (.yield ll) #[] #[]) rfl rfl (by kernel_rfl) (by kernel_rfl) (by kernel_rfl) (by kernel_rfl) (by kernel_rfl) (fun _ _ _ h => h) ⟨by rfl, ?_⟩ hS0 ?_
        · rintro w ⟨sa, sb, sc, sd, se, sf⟩
          refine ⟨?_, by rfl⟩
          go_simp
        simp only [Act.put, List.setIfInBounds_toArray, List.set_cons_zero, List.set_cons_succ]
        refine anyS_take 1 [9, 10, 11] (v := .int .u8 1) rfl rfl (by kernel_rfl) (by kernel_rfl) (by kernel_rfl) (by kernel_rfl) (by kernel_rfl) (fun _ _ _ h => h) ⟨by rfl, ?_⟩ hS0 ?_
        · rintro w ⟨sa, sb, sc, sd, se, sf⟩
          refine ⟨?_, by rfl⟩
          go_simp
        simp only [Act.put, List.setIfInBounds_toArray, List.set_cons_zero, List.set_cons_succ]
        refine anyS_take 2 [3, 9, 10, 11] (v := .pointer (some ⟨wr.heap.size, 0, none⟩)) rfl rfl (by kernel_rfl) (by kernel_rfl) (by kernel_rfl) (by kernel_rfl) (by kernel_rfl) (fun _ _ _ h => h) ⟨by rfl, ?_⟩ hS0 ?_
        · rintro w ⟨sa, sb, sc, sd, se, sf⟩
          refine ⟨?_, by rfl⟩
          go_simp
        simp only [Act.put, List.setIfInBounds_toArray, List.set_cons_zero, List.set_cons_succ]
        refine anyS_take 3 [9, 10, 11] (v := .int .u32 x.1) rfl rfl (by kernel_rfl) (by kernel_rfl) (by kernel_rfl) (by kernel_rfl) (by kernel_rfl) (fun _ _ _ h => h) ⟨by rfl, ?_⟩ hS0 ?_
        · rintro w ⟨sa, sb, sc, sd, se, sf⟩
          refine ⟨?_, by rfl⟩
          go_simp
        simp only [Act.put, List.setIfInBounds_toArray, List.set_cons_zero, List.set_cons_succ]
        refine anyS_take 4 [9, 10, 11] (v := .int .u8 gv) rfl rfl (by kernel_rfl) (by kernel_rfl) (by kernel_rfl) (by kernel_rfl) (by kernel_rfl) (fun _ _ _ h => h) ⟨by rfl, ?_⟩ hS0 ?_
        · rintro w ⟨sa, sb, sc, sd, se, sf⟩
          refine ⟨?_, by rfl⟩
          go_simp
        simp only [Act.put, List.setIfInBounds_toArray, List.set_cons_zero, List.set_cons_succ]
        refine anyS_take 5 [6, 8, 9, 10, 11] (v := .pointer (some ⟨wr.heap.size, 3, none⟩)) rfl rfl (by kernel_rfl) (by kernel_rfl) (by kernel_rfl) (by kernel_rfl) (by kernel_rfl) (fun _ _ _ h => h) ⟨by rfl, ?_⟩ hS0 ?_
        · rintro w ⟨sa, sb, sc, sd, se, sf⟩
          refine ⟨?_, by rfl⟩
          go_simp
        simp only [Act.put, List.setIfInBounds_toArray, List.set_cons_zero, List.set_cons_succ]
        refine anyS_take 6 [8, 9, 10, 11] (v := .agg ((itA x).extract 3 11)) rfl rfl (by kernel_rfl) (by kernel_rfl) (by kernel_rfl) (by kernel_rfl) (by kernel_rfl) (fun _ _ _ h => h) ⟨by rfl, ?_⟩ hS0 ?_
        · rintro w ⟨sa, sb, sc, sd, se, sf⟩
          refine ⟨?_, by rfl⟩
          go_simp
        simp only [Act.put, List.setIfInBounds_toArray, List.set_cons_zero, List.set_cons_succ]
        refine anyS_take 7 [8, 9, 10, 11] (v := .int .u8 gv) rfl rfl (by kernel_rfl) (by kernel_rfl) (by kernel_rfl) (by kernel_rfl) (by kernel_rfl) (fun _ _ _ h => h) ⟨by rfl, ?_⟩ hS0 ?_
        · rintro w ⟨sa, sb, sc, sd, se, sf⟩
          refine ⟨?_, by rfl⟩
          go_simp
        simp only [Act.put, List.setIfInBounds_toArray, List.set_cons_zero, List.set_cons_succ]
        refine anyS_one 8 (by kernel_rfl) rfl (by rfl) fun K hK => ?_
        go_simp
        refine ⟨trivial, ?_⟩
        gi_at_call 88
        refine (callsIn_wide.2 (vonly_any _ _ _ g0 g1)).mono ?_
        rintro e w2 ⟨rfl, hb2⟩
        have hr2 : New wr w2 := (New.drew' hr1).call hb2
        have hS2 : (fun w' : World => rowAt w' wr.heap.size = itA x ∧ rowOk w' wr.heap.size = true ∧ rowAt w' Bg = #[.int .u8 gv] ∧ rowOk w' Bg = true ∧ New wr w' ∧ wr.heap.size < w'.heap.size) w2 :=
          ⟨(rowAt_below hb2 wr.heap.size (show wr.heap.size < w1.heap.size by omega)).trans hA1, (rowOk_below hb2 wr.heap.size (show wr.heap.size < w1.heap.size by omega)).trans hO1, (rowAt_below hb2 Bg (show Bg < w1.heap.size by omega)).trans hG1, (rowOk_below hb2 Bg (show Bg < w1.heap.size by omega)).trans hG2, hr2, Nat.lt_of_lt_of_le hz1 hb2.size⟩
        refine hK _ _ (fun _ => hS2) ?_
        try simp only [Act.put, List.setIfInBounds_toArray, List.set_cons_zero, List.set_cons_succ]
        obtain ⟨fn, tmps, assign, body, hy, hR⟩ := yield_bool (hY _ (putO v gv x) _ (abides_new hJ hJs hr2) (hlen2.out hnp2.out))
        simp only [hpo2.out] at hy
        refine anyS_take 9 [10, 11] (v := .agg (opA (1, 0, x.1, gv, mg none8 x.2.2.2 gv false 0))) rfl rfl (by kernel_rfl) (by kernel_rfl) (by kernel_rfl) (by kernel_rfl) (by kernel_rfl) (fun _ _ _ h => h) ⟨by rfl, ?_⟩ hS2 ?_
        · rintro w ⟨sa, sb, sc, sd, se, sf⟩
          refine ⟨?_, by rfl⟩
          go_simp
        simp only [Act.put, List.setIfInBounds_toArray, List.set_cons_zero, List.set_cons_succ]
        refine anyS_one 10 (by kernel_rfl) rfl (by rfl) fun K hK => ?_
        try go_simp
        gi_wp2
        refine hR.mono ?_
        rintro e W3 ⟨b, rfl, hd⟩
        refine hK _ _ (fun h => by cases h) ?_
        try simp only [Act.put, List.setIfInBounds_toArray, List.set_cons_zero, List.set_cons_succ]
        refine anyS_one 11 (by kernel_rfl) rfl (by rfl) fun K hK => ?_
        go_simp
        refine hK _ _ (fun h => by cases h) ?_
        refine anyS_done (by kernel_rfl) ?_ _
        rcases hd with ⟨rfl, hJ3, hk3⟩ | ⟨rfl, hJx3⟩
        · gi_wp2
          go_roundw
          case rel => exact ⟨k + 1, by omega, by simp, by rw [hst2.out, hnp2.out]; exact hJ3, (hnx.new hr2 (Nat.le_trans hnW hsz) hbs).t hk3, Nat.le_trans hsz (Nat.le_trans hr2.size hk3.1.size)⟩
          case measure => simp [intOf]; omega
        · gi_wp2
          refine bodyPost_ret (results_none rfl _ _ _) rfl ?_
          exact ⟨⟨_, rfl⟩, .inr ⟨_, by have := hpre2.out; rw [hst2.out, hnp2.out] at this; exact this, hJx3⟩⟩
      · rcases Bool.eq_false_or_eq_true (sv == x.2.2.1) with hsv | hsv
        · rw [hsv] at hnp2
          simp only [Bool.true_and, Bool.not_true] at hnp2
          gi_wp2_with (first
            | (refine ⟨trivial, ?_⟩; gi_at_call 39; refine (callsIn_wide.2 (hHD.out _ hl2 (by omega))).mono ?_; rintro e w1 ⟨rfl, hb⟩; have hA1 := rowAt_below hb wr.heap.size (by simp); have hO1 := rowOk_below hb wr.heap.size (by simp); simp only [rowAt_alloc_at _ _ _ _ rfl, rowOk_alloc_at _ _ _ _ rfl] at hA1 hO1; have hz1 : wr.heap.size < w1.heap.size := (by have := hb.size; simp only [World.size_alloc] at this; omega); have hG1 : rowAt w1 Bg = #[.int .u8 gv] := (by rw [rowAt_below hb Bg (by simp only [World.size_alloc]; omega), rowAt_alloc_past wr _ _ hgg3, hgg2]); have hG2 : rowOk w1 Bg = true := (by rw [rowOk_below hb Bg (by simp only [World.size_alloc]; omega), rowOk_alloc_past wr _ _ hgg3]; exact hgg1); have hr1 : New wr w1 := ((New.rfl' wr).alloc' (Obj.cells (itA x) 28)).call hb))
          go_roundw
          case rel => exact ⟨k + 1, by omega, by simp, by rw [hst2.out, hnp2.out]; simpa using abides_new hJ hJs hr1, hnx.new hr1 (Nat.le_trans hnW hsz) hbs, Nat.le_trans hsz hr1.size⟩
          case measure => simp [intOf]; omega
        · rw [hsv] at hnp2
          simp only [Bool.and_false, Bool.not_false, if_true] at hnp2 hpo2
          gi_wp2_with (first
            | (refine ⟨trivial, ?_⟩; gi_at_call 39; refine (callsIn_wide.2 (hHD.out _ hl2 (by omega))).mono ?_; rintro e w1 ⟨rfl, hb⟩; have hA1 := rowAt_below hb wr.heap.size (by simp); have hO1 := rowOk_below hb wr.heap.size (by simp); simp only [rowAt_alloc_at _ _ _ _ rfl, rowOk_alloc_at _ _ _ _ rfl] at hA1 hO1; have hz1 : wr.heap.size < w1.heap.size := (by have := hb.size; simp only [World.size_alloc] at this; omega); have hG1 : rowAt w1 Bg = #[.int .u8 gv] := (by rw [rowAt_below hb Bg (by simp only [World.size_alloc]; omega), rowAt_alloc_past wr _ _ hgg3, hgg2]); have hG2 : rowOk w1 Bg = true := (by rw [rowOk_below hb Bg (by simp only [World.size_alloc]; omega), rowOk_alloc_past wr _ _ hgg3]; exact hgg1); have hr1 : New wr w1 := ((New.rfl' wr).alloc' (Obj.cells (itA x) 28)).call hb))
          have hS0 : (fun w' : World => rowAt w' wr.heap.size = itA x ∧ rowOk w' wr.heap.size = true ∧ rowAt w' Bg = #[.int .u8 gv] ∧ rowOk w' Bg = true ∧ New wr w' ∧ wr.heap.size < w'.heap.size) w1.drew := ⟨hA1, hO1, hG1, hG2, New.drew' hr1, hz1⟩
          refine region_anyS (fun w' : World => rowAt w' wr.heap.size = itA x ∧ rowOk w' wr.heap.size = true ∧ rowAt w' Bg = #[.int .u8 gv] ∧ rowOk w' Bg = true ∧ New wr w' ∧ wr.heap.size < w'.heap.size) [10, 11] (by kernel_rfl) ?_
          refine anyS_take 0 [10, 11] (v := .func (.yield ll) #[] #[]) rfl rfl (by kernel_rfl) (by kernel_rfl) (by kernel_rfl) (by kernel_rfl) (by kernel_rfl) (fun _ _ _ h => h) ⟨by rfl, ?_⟩ hS0 ?_
          · rintro w ⟨sa, sb, sc, sd, se, sf⟩
            refine ⟨?_, by rfl⟩
            go_simp
          simp only [Act.put, List.setIfInBounds_toArray, List.set_cons_zero, List.set_cons_succ]
          refine anyS_take 1 [9, 10, 11] (v := .int .u8 2) rfl rfl (by kernel_rfl) (by kernel_rfl) (by kernel_rfl) (by kernel_rfl) (by kernel_rfl) (fun _ _ _ h => h) ⟨by rfl, ?_⟩ hS0 ?_
          · rintro w ⟨sa, sb, sc, sd, se, sf⟩
            refine ⟨?_, by rfl⟩
            go_simp
          simp only [Act.put, List.setIfInBounds_toArray, List.set_cons_zero, List.set_cons_succ]
          refine anyS_take 2 [3, 9, 10, 11] (v := .pointer (some ⟨wr.heap.size, 0, none⟩)) rfl rfl (by kernel_rfl) (by kernel_rfl) (by kernel_rfl) (by kernel_rfl) (by kernel_rfl) (fun _ _ _ h => h) ⟨by rfl, ?_⟩ hS0 ?_
          · rintro w ⟨sa, sb, sc, sd, se, sf⟩
            refine ⟨?_, by rfl⟩
            go_simp
          simp only [Act.put, List.setIfInBounds_toArray, List.set_cons_zero, List.set_cons_succ]
          refine anyS_take 3 [9, 10, 11] (v := .int .u32 x.1) rfl rfl (by kernel_rfl) (by kernel_rfl) (by kernel_rfl) (by kernel_rfl) (by kernel_rfl) (fun _ _ _ h => h) ⟨by rfl, ?_⟩ hS0 ?_
          · rintro w ⟨sa, sb, sc, sd, se, sf⟩
            refine ⟨?_, by rfl⟩
            go_simp
          simp only [Act.put, List.setIfInBounds_toArray, List.set_cons_zero, List.set_cons_succ]
          refine anyS_take 4 [9, 10, 11] (v := .int .u8 gv) rfl rfl (by kernel_rfl) (by kernel_rfl) (by kernel_rfl) (by kernel_rfl) (by kernel_rfl) (fun _ _ _ h => h) ⟨by rfl, ?_⟩ hS0 ?_
          · rintro w ⟨sa, sb, sc, sd, se, sf⟩
            refine ⟨?_, by rfl⟩
            go_simp
          simp only [Act.put, List.setIfInBounds_toArray, List.set_cons_zero, List.set_cons_succ]
          refine anyS_take 5 [6, 8, 9, 10, 11] (v := .pointer (some ⟨wr.heap.size, 3, none⟩)) rfl rfl (by kernel_rfl) (by kernel_rfl) (by kernel_rfl) (by kernel_rfl) (by kernel_rfl) (fun _ _ _ h => h) ⟨by rfl, ?_⟩ hS0 ?_
          · rintro w ⟨sa, sb, sc, sd, se, sf⟩
            refine ⟨?_, by rfl⟩
            go_simp
          simp only [Act.put, List.setIfInBounds_toArray, List.set_cons_zero, List.set_cons_succ]
          refine anyS_take 6 [8, 9, 10, 11] (v := .agg ((itA x).extract 3 11)) rfl rfl (by kernel_rfl) (by kernel_rfl) (by kernel_rfl) (by kernel_rfl) (by kernel_rfl) (fun _ _ _ h => h) ⟨by rfl, ?_⟩ hS0 ?_
          · rintro w ⟨sa, sb, sc, sd, se, sf⟩
            refine ⟨?_, by rfl⟩
            go_simp
          simp only [Act.put, List.setIfInBounds_toArray, List.set_cons_zero, List.set_cons_succ]
          refine anyS_take 7 [8, 9, 10, 11] (v := .int .u8 gv) rfl rfl (by kernel_rfl) (by kernel_rfl) (by kernel_rfl) (by kernel_rfl) (by kernel_rfl) (fun _ _ _ h => h) ⟨by rfl, ?_⟩ hS0 ?_
          · rintro w ⟨sa, sb, sc, sd, se, sf⟩
            refine ⟨?_, by rfl⟩
            go_simp
          simp only [Act.put, List.setIfInBounds_toArray, List.set_cons_zero, List.set_cons_succ]
          refine anyS_one 8 (by kernel_rfl) rfl (by rfl) fun K hK => ?_
          go_simp
          refine ⟨trivial, ?_⟩
          gi_at_call 88
          refine (callsIn_wide.2 (vonly_any _ _ _ g0 g1)).mono ?_
          rintro e w2 ⟨rfl, hb2⟩
          have hr2 : New wr w2 := (New.drew' hr1).call hb2
          have hS2 : (fun w' : World => rowAt w' wr.heap.size = itA x ∧ rowOk w' wr.heap.size = true ∧ rowAt w' Bg = #[.int .u8 gv] ∧ rowOk w' Bg = true ∧ New wr w' ∧ wr.heap.size < w'.heap.size) w2 :=
            ⟨(rowAt_below hb2 wr.heap.size (show wr.heap.size < w1.heap.size by omega)).trans hA1, (rowOk_below hb2 wr.heap.size (show wr.heap.size < w1.heap.size by omega)).trans hO1, (rowAt_below hb2 Bg (show Bg < w1.heap.size by omega)).trans hG1, (rowOk_below hb2 Bg (show Bg < w1.heap.size by omega)).trans hG2, hr2, Nat.lt_of_lt_of_le hz1 hb2.size⟩
          refine hK _ _ (fun _ => hS2) ?_
          try simp only [Act.put, List.setIfInBounds_toArray, List.set_cons_zero, List.set_cons_succ]
          obtain ⟨fn, tmps, assign, body, hy, hR⟩ := yield_bool (hY _ (putO v gv x) _ (abides_new hJ hJs hr2) (hlen2.out hnp2.out))
          simp only [hpo2.out] at hy
          refine anyS_take 9 [10, 11] (v := .agg (opA (2, 0, x.1, gv, mg none8 x.2.2.2 gv false 0))) rfl rfl (by kernel_rfl) (by kernel_rfl) (by kernel_rfl) (by kernel_rfl) (by kernel_rfl) (fun _ _ _ h => h) ⟨by rfl, ?_⟩ hS2 ?_
          · rintro w ⟨sa, sb, sc, sd, se, sf⟩
            refine ⟨?_, by rfl⟩
            go_simp
          simp only [Act.put, List.setIfInBounds_toArray, List.set_cons_zero, List.set_cons_succ]
          refine anyS_one 10 (by kernel_rfl) rfl (by rfl) fun K hK => ?_
          try go_simp
          gi_wp2
          refine hR.mono ?_
          rintro e W3 ⟨b, rfl, hd⟩
          refine hK _ _ (fun h => by cases h) ?_
          try simp only [Act.put, List.setIfInBounds_toArray, List.set_cons_zero, List.set_cons_succ]
          refine anyS_one 11 (by kernel_rfl) rfl (by rfl) fun K hK => ?_
          go_simp
          refine hK _ _ (fun h => by cases h) ?_
          refine anyS_done (by kernel_rfl) ?_ _
          rcases hd with ⟨rfl, hJ3, hk3⟩ | ⟨rfl, hJx3⟩
          · gi_wp2
            go_roundw
            case rel => exact ⟨k + 1, by omega, by simp, by rw [hst2.out, hnp2.out]; exact hJ3, (hnx.new hr2 (Nat.le_trans hnW hsz) hbs).t hk3, Nat.le_trans hsz (Nat.le_trans hr2.size hk3.1.size)⟩
            case measure => simp [intOf]; omega
          · gi_wp2
            refine bodyPost_ret (results_none rfl _ _ _) rfl ?_
            exact ⟨⟨_, rfl⟩, .inr ⟨_, by have := hpre2.out; rw [hst2.out, hnp2.out] at this; exact this, hJx3⟩⟩

    · gi_wp2
      go_end0
      rw [List.take_of_length_le (by omega)] at hJs
      exact ⟨⟨_, rfl⟩, .inl ⟨_, rfl, hJs⟩⟩
end Go.Proofs.Ytkgebhmlogddcaa
