/- The law ClashTold, walked (part 3). -/
import Derived.Test.YtkgebhmlogddcaaTold2
namespace Go.Proofs.Ytkgebhmlogddcaa
open Go.RowKit
set_option linter.unusedSimpArgs false
attribute [local go_sem] rowAt_alloc_at rowAt_alloc_past rowOk_alloc_at rowOk_alloc_past rowAt_drew rowOk_drew setRow_alloc_at setRow_alloc_past rowAt_setRow rowAt_setRow_far rowOk_setRow cell_rowOk frozen_rowOk setCell_rowOk setRow_setRow con_fold con_get con_size con_set set_all none8_cells equalIn_con storeCells_con
attribute [local go_sem] it_size it_0 it_1 it_2 it_3 it_4 it_5 it_6 it_7 it_8 it_9 it_10 it_set0 it_set1 it_set2 it_fold it_zero it_eta it_fill run_storeCells_it
attribute [local go_sem] sn_size sn_0 sn_1 sn_set0 sn_set1 sn_fold sn_eta sn_fill run_storeCells_sn eqg_sn eqg_it
attribute [local go_sem high] equalIn_sn equalIn_it
attribute [local go_sem] op_size op_0 op_1 op_2 op_3 op_4 op_5 op_6 op_7 op_8 op_9 op_10 op_11 op_con op_fold op_eta run_storeCells_op gn_size gn_0 gn_1 gn_2 gn_3 gn_4 gn_5 gn_6 gn_7 gn_8 gn_9 gn_10 gn_fold

set_option maxHeartbeats 3200000 in
set_option maxRecDepth 100000 in
theorem told_four (A : Option Addr) (n c : Nat) (l : List It) (fo : Int) (B : Option Addr) (m d : Nat) (v : List Sn) (op : Opr) (g : Gn) (sq : Int) (w : World) (hl : KI.Rd w A n l) (hv : KS.Rd w B m v) (hn : n ≤ 60) (hm : m ≤ 100) (hPl : PosI l) (hPv : PosS v) (hml : mayI l = true) (hmv : risS 0 v = true) (h : ¬ ((findS v op.2.2.1).isSome = true ∧ (findS v op.2.2.1).getD 0 = sq)) (I : List It) (S : List Sn) (hDo : ∀ (A : Option Addr) (c : Nat) (B : Option Addr) (d : Nat) (w : World) (hl : KI.Rd w A n l) (hv : KS.Rd w B m v), Calls Try.prog 32 #[.slice A n c, .int .u32 fo, .slice B m d, .agg (opA op), .agg (gnA g), .int .u64 sq] w fun e w' => ∃ a b, e = .returned (.tuple #[a, b, .int .u8 4]) ∧ KI.Own w' w.heap.size a I ∧ KS.Own w' w.heap.size b S ∧ New w w')
    (hmI : mayI I = true) (hmS : risS 0 S = true) (hSl : S.length ≤ 101) (hbut : butI I op.2.2.1 = butI l op.2.2.1) (hdrp : dropS S op.2.2.1 = dropS v op.2.2.1) (x0 : It) (hf1 : Hid (findI I op.2.2.1 = some x0)) (hf2 : Hid (findI l op.2.2.1 = some x0)) (hp : Hid (pendB S I fo op.2.2.1 = true)) :
    Calls Try.prog 7 #[.slice A n c, .int .u32 fo, .slice B m d, .agg (opA op), .agg (gnA g), .int .u64 sq] w fun e w' => e = .returned (.bool true) ∧ New w w' := by
  obtain rfl : l.length = n := hl.1
  obtain rfl : v.length = m := hv.1
  have hC1 := rvof_any B v.length d v op.2.2.1
  have hPI := may_pos hmI
  have hPS := ris_pos hmS
  have hIl := mayI_len I hmI
  have HDo := Lib.hid hDo
  have Hh := Lib.hid h
  have Hbut := Lib.hid hbut
  have Hdrp := Lib.hid hdrp
  have Hbl := Lib.hid (show (butI I op.2.2.1).length ≤ I.length from List.length_filter_le _ _)
  have Hdl := Lib.hid (drop_len S op.2.2.1)
  clear hDo hbut hdrp hmI hmS
  have hA1 := refmay_any A l.length c l
  rw [hml] at hA1
  have HA := Lib.hid hA1
  clear hA1 hml
  have hB1 := rvmay_any B v.length d v
  rw [hmv] at hB1
  have HB := Lib.hid hB1
  clear hB1 hmv
  have hng : (decide (60 < l.length) || decide (100 < v.length)) = false := by simp; omega
  have hng1 : decide (60 < l.length) = false := by simp; omega
  have hng2 : decide (100 < v.length) = false := by simp; omega
  have hsp : (findS v op.2.2.1).isSome = false ∨ ((findS v op.2.2.1).isSome = true ∧ ((findS v op.2.2.1).getD 0 == sq) = false) := by
    cases hh : (findS v op.2.2.1).isSome
    · exact .inl rfl
    · exact .inr ⟨rfl, by have := Hh.out; rw [hh] at this; simpa using this⟩
  clear h
  generalize (findS v op.2.2.1).isSome = st at *
  generalize (findS v op.2.2.1).getD 0 = sv at *
  have HC := Lib.hid hC1
  clear hC1
  have hl0 := hl
  rcases hsp with hsp | ⟨hsp, hsq⟩
  all_goals
    subst hsp
    go_enter Try.func7, Try.ntmps7
    go_wp2_with fail
    have hnW : New w ((w.alloc (Obj.cells (opA op) 48)).alloc (Obj.cells (gnA g) 54)) := ((New.rfl' w).alloc' _).alloc' _
    generalize hW : ((w.alloc (Obj.cells (opA op) 48)).alloc (Obj.cells (gnA g) 54)) = W at *
    have hWz0 : w.heap.size < W.heap.size := by rw [← hW]; simp only [World.size_alloc]; omega
    have hWa0 : rowAt W (w.heap.size) = opA op := by rw [← hW]; simp [go_sem]
    have hWo0 : rowOk W (w.heap.size) = true := by rw [← hW]; simp [go_sem]
    have hWz1 : w.heap.size + 1 < W.heap.size := by rw [← hW]; simp only [World.size_alloc]; omega
    have hWa1 : rowAt W (w.heap.size + 1) = gnA g := by rw [← hW]; simp [go_sem]
    have hWo1 : rowOk W (w.heap.size + 1) = true := by rw [← hW]; simp [go_sem]
    clear hW
    have hWA := fun w' (h : New W w') n hn => rowAt_below h n hn
    have hWO := fun w' (h : New W w') n hn => rowOk_below h n hn
    have hWS := fun w' (h : New W w') n (hn : n < W.heap.size) => eq_true (Nat.lt_of_lt_of_le hn h.size)
    have hl2 := hl.new hnW
    have hv2 := hv.new hnW
    have hW := New.rfl' W
    go_wp2_with (first
      | (go_at_call 28; refine (great21 _ _ _ _ _ _ _).mono ?_; rintro e w1 ⟨rfl, rfl⟩)
      | (go_at_call 25; refine (HA.out _ (hl2.new hW) (by omega) hPl).mono ?_; rintro e w3 ⟨rfl, hb⟩; have hW := New.call hW hb; clear hb)
      | (go_at_call 29; refine (HB.out _ (hv2.new hW) (by omega) hPv).mono ?_; rintro e w4 ⟨rfl, hb⟩; have hW := New.call hW hb; clear hb)
      | (go_at_call 31; refine (HC.out _ (hv2.new hW) (by omega) hPv).mono ?_; rintro e w5 ⟨rfl, hb⟩; have hW := New.call hW hb; clear hb))
    go_loopw [15] (fun i wr => ∃ k : Nat, k ≤ l.length ∧ i = .int .i64 k ∧ New W wr) (fun i _ => l.length - (intOf i).toNat)
    case atStart => exact ⟨0, by omega, rfl, hW⟩
    case round =>
      obtain ⟨k, hk, rfl, hr⟩ := hrel
      by_cases hlt : k < l.length
      · skip
        obtain ⟨bhl2, ohl2, rfl, hbhl2, hchl2⟩ := hl2.2 (by omega)
        have hrhl2 : ∀ w', New W w' → ∀ k (hk : k < l.length), w'.cell? ⟨bhl2, ohl2 + k * 11, none⟩ = (itA l[k])[0]? := fun w' hw k hk => (hw.cell (p := ⟨bhl2, _, none⟩) hbhl2).trans (hchl2 k hk 0 (by decide))
        have hshl2 : ∀ w', New W w' → ∀ k (hk : k < l.length) j, j < 11 → w'.cell? ⟨bhl2, ohl2 + k * 11 + j, none⟩ = (itA l[k])[j]? := fun w' hw k hk j hj => (hw.cell (p := ⟨bhl2, _, none⟩) hbhl2).trans (hchl2 k hk j hj)
        clear hchl2
        rcases Bool.eq_false_or_eq_true (l[k].2.2.1 == sq) with e1 | e1
        · go_wp2_with (first
          | (go_at_call 30; refine (lives21 _).mono ?_; rintro e w2 ⟨rfl, rfl⟩))
          go_ret
          exact ⟨rfl, hnW.call hr⟩
        · go_wp2_with fail
          go_roundw
          case rel => exact ⟨k + 1, by omega, by go_num, hr⟩
          case measure => simp [intOf]; omega
      · have hW := hr
        have hL3 := New.rfl' wr
        go_wp2_with (first
          | (go_at_call 32; refine (HDo.out _ _ _ _ _ (hl2.new hW) (hv2.new hW)).mono ?_; rintro e w6 ⟨a, b, rfl, hI, hS, hb⟩; obtain ⟨A1, c1, rfl, _, hI1⟩ := hI.rd; obtain ⟨B1, d1, rfl, _, hS1⟩ := hS.rd; have hW := New.call hW hb; have hL3 := New.rfl' w6; clear hb hI hS))
        go_region_held3 (fun w' => New W w') (first | exact hW | exact New.drew' hW)
          (first
          | (go_at_call_of 33 A1; refine (but_any _ _ _ I _ _ (hI1.new (New.drew' hL3)) (by omega)).mono ?_; rintro e w7 ⟨u7, rfl, hu7, hb⟩; obtain ⟨A7, c7, rfl, _, hu7⟩ := hu7.rd; have hW := (New.drew' hW).call hb; have hL3 := (New.drew' hL3).call hb; clear hb)
          | (go_at_call 33; refine (but_any _ _ _ l _ _ (hl2.new hW) (by omega)).mono ?_; rintro e w8 ⟨u8, rfl, hu8, hb⟩; obtain ⟨A8, c8, rfl, _, hu8⟩ := hu8.rd; have hu7 := hu7.new hb; have hW := hW.call hb; have hL3 := hL3.call hb; clear hb)
          | (go_at_call 18; refine (refsame_t _ _ _ _ _ _ _ _ _ hu7 hu8 (by have := Hbl.out; omega) (by rw [← Hbut.out]; have := Hbl.out; omega) Hbut.out).mono ?_; rintro e w9 ⟨rfl, hb⟩; have hW := hW.call hb; have hL3 := hL3.call hb; clear hb)
          | (go_at_call_of 35 B1; refine (rvdrop_any _ _ _ S _ _ (hS1.new hL3) (by omega) hPS).mono ?_; rintro e w10 ⟨u9, rfl, hu9, hb⟩; obtain ⟨A9, c9, rfl, _, hu9⟩ := hu9.rd; have hW := hW.call hb; have hL3 := hL3.call hb; clear hb)
          | (go_at_call 35; refine (rvdrop_any _ _ _ v _ _ (hv2.new hW) (by omega) hPv).mono ?_; rintro e w11 ⟨u10, rfl, hu10, hb⟩; obtain ⟨A10, c10, rfl, _, hu10⟩ := hu10.rd; have hu9 := hu9.new hb; have hW := hW.call hb; have hL3 := hL3.call hb; clear hb)
          | (go_at_call 34; refine (rvsame_t _ _ _ _ _ _ _ _ _ hu9 hu10 (by have := Hdl.out; omega) (by rw [← Hdrp.out]; have := Hdl.out; omega) Hdrp.out).mono ?_; rintro e w12 ⟨rfl, hb⟩; have hW := hW.call hb; have hL3 := hL3.call hb; clear hb))
        go_wp2_with (first
          | (go_at_call_of 24 A1; refine (rvfind_t _ _ _ I _ x0 _ (hI1.new hL3) (by omega) hPI hf1.out).mono ?_; rintro e w13 ⟨rfl, hb⟩; have hW := hW.call hb; have hL3 := hL3.call hb; clear hb))
        have hnX : New w13 (w13.alloc (Obj.cells (itA x0) 28)) := (New.rfl' w13).alloc' _
        generalize hX : (w13.alloc (Obj.cells (itA x0) 28)) = X at *
        have hXz0 : w13.heap.size < X.heap.size := by rw [← hX]; simp only [World.size_alloc]; omega
        have hXa0 : rowAt X (w13.heap.size) = itA x0 := by rw [← hX]; simp [go_sem]
        have hXo0 : rowOk X (w13.heap.size) = true := by rw [← hX]; simp [go_sem]
        clear hX
        have hXA := fun w' (h : New X w') n hn => rowAt_below h n hn
        have hXO := fun w' (h : New X w') n hn => rowOk_below h n hn
        have hXS := fun w' (h : New X w') n (hn : n < X.heap.size) => eq_true (Nat.lt_of_lt_of_le hn h.size)
        have hW := hW.call hnX
        have hL3 := hL3.call hnX
        go_wp2_with (first
          | (go_at_call 24; refine (rvfind_t _ _ _ l _ x0 _ (hl2.new hW) (by omega) hPl hf2.out).mono ?_; rintro e w14 ⟨rfl, hb⟩; have hW := hW.call hb; have hL3 := hL3.call hb; have hX := hb; clear hb))
        have hnY : New w14 (w14.alloc (Obj.cells (itA x0) 28)) := (New.rfl' w14).alloc' _
        generalize hY : (w14.alloc (Obj.cells (itA x0) 28)) = Y at *
        have hYz0 : w14.heap.size < Y.heap.size := by rw [← hY]; simp only [World.size_alloc]; omega
        have hYa0 : rowAt Y (w14.heap.size) = itA x0 := by rw [← hY]; simp [go_sem]
        have hYo0 : rowOk Y (w14.heap.size) = true := by rw [← hY]; simp [go_sem]
        clear hY
        have hYA := fun w' (h : New Y w') n hn => rowAt_below h n hn
        have hYO := fun w' (h : New Y w') n hn => rowOk_below h n hn
        have hYS := fun w' (h : New Y w') n (hn : n < Y.heap.size) => eq_true (Nat.lt_of_lt_of_le hn h.size)
        have hW := hW.call hnY
        have hL3 := hL3.call hnY
        have hXY := hX.call hnY
        have hYY := New.rfl' Y
        go_wp2_with (first
          | (go_at_call 36; refine (pending_t _ _ _ S _ _ _ I _ _ true _ (hS1.new hL3) (hI1.new hL3) (by omega) (by omega) hPS hPI hp.out).mono ?_; rintro e w15 ⟨rfl, hb⟩; have hW := hW.call hb; have hL3 := hL3.call hb; clear hb)
          | (go_at_call 30; refine (lives21 _).mono ?_; rintro e w2 ⟨rfl, rfl⟩))
        go_ret
        exact ⟨rfl, hnW.call hW⟩
set_option maxHeartbeats 3200000 in
set_option maxRecDepth 100000 in
theorem told_three2 (A : Option Addr) (n c : Nat) (l : List It) (fo : Int) (B : Option Addr) (m d : Nat) (v : List Sn) (op : Opr) (g : Gn) (sq : Int) (w : World) (hl : KI.Rd w A n l) (hv : KS.Rd w B m v) (hn : n ≤ 60) (hm : m ≤ 100) (hPl : PosI l) (hPv : PosS v) (hml : mayI l = true) (hmv : risS 0 v = true) (h : ¬ ((findS v op.2.2.1).isSome = true ∧ (findS v op.2.2.1).getD 0 = sq)) (I : List It) (S : List Sn) (hDo : ∀ (A : Option Addr) (c : Nat) (B : Option Addr) (d : Nat) (w : World) (hl : KI.Rd w A n l) (hv : KS.Rd w B m v), Calls Try.prog 32 #[.slice A n c, .int .u32 fo, .slice B m d, .agg (opA op), .agg (gnA g), .int .u64 sq] w fun e w' => ∃ a b, e = .returned (.tuple #[a, b, .int .u8 3]) ∧ KI.Own w' w.heap.size a I ∧ KS.Own w' w.heap.size b S ∧ New w w')
    (hmI : mayI I = true) (hmS : risS 0 S = true) (hSl : S.length ≤ 101) (hbut : butI I op.2.2.1 = butI l op.2.2.1) (hdrp : dropS S op.2.2.1 = dropS v op.2.2.1) (hf1 : Hid (findI I op.2.2.1 = none)) (hk2 : (op.1 == 2) = false) :
    Calls Try.prog 7 #[.slice A n c, .int .u32 fo, .slice B m d, .agg (opA op), .agg (gnA g), .int .u64 sq] w fun e w' => e = .returned (.bool true) ∧ New w w' := by
  obtain rfl : l.length = n := hl.1
  obtain rfl : v.length = m := hv.1
  have hC1 := rvof_any B v.length d v op.2.2.1
  have hPI := may_pos hmI
  have hPS := ris_pos hmS
  have hIl := mayI_len I hmI
  have HDo := Lib.hid hDo
  have Hh := Lib.hid h
  have Hbut := Lib.hid hbut
  have Hdrp := Lib.hid hdrp
  have Hbl := Lib.hid (show (butI I op.2.2.1).length ≤ I.length from List.length_filter_le _ _)
  have Hdl := Lib.hid (drop_len S op.2.2.1)
  clear hDo hbut hdrp hmI hmS
  have hA1 := refmay_any A l.length c l
  rw [hml] at hA1
  have HA := Lib.hid hA1
  clear hA1 hml
  have hB1 := rvmay_any B v.length d v
  rw [hmv] at hB1
  have HB := Lib.hid hB1
  clear hB1 hmv
  have hng : (decide (60 < l.length) || decide (100 < v.length)) = false := by simp; omega
  have hng1 : decide (60 < l.length) = false := by simp; omega
  have hng2 : decide (100 < v.length) = false := by simp; omega
  have hsp : (findS v op.2.2.1).isSome = false ∨ ((findS v op.2.2.1).isSome = true ∧ ((findS v op.2.2.1).getD 0 == sq) = false) := by
    cases hh : (findS v op.2.2.1).isSome
    · exact .inl rfl
    · exact .inr ⟨rfl, by have := Hh.out; rw [hh] at this; simpa using this⟩
  clear h
  generalize (findS v op.2.2.1).isSome = st at *
  generalize (findS v op.2.2.1).getD 0 = sv at *
  have HC := Lib.hid hC1
  clear hC1
  have hl0 := hl
  rcases hsp with hsp | ⟨hsp, hsq⟩
  all_goals
    subst hsp
    go_enter Try.func7, Try.ntmps7
    go_wp2_with fail
    have hnW : New w ((w.alloc (Obj.cells (opA op) 48)).alloc (Obj.cells (gnA g) 54)) := ((New.rfl' w).alloc' _).alloc' _
    generalize hW : ((w.alloc (Obj.cells (opA op) 48)).alloc (Obj.cells (gnA g) 54)) = W at *
    have hWz0 : w.heap.size < W.heap.size := by rw [← hW]; simp only [World.size_alloc]; omega
    have hWa0 : rowAt W (w.heap.size) = opA op := by rw [← hW]; simp [go_sem]
    have hWo0 : rowOk W (w.heap.size) = true := by rw [← hW]; simp [go_sem]
    have hWz1 : w.heap.size + 1 < W.heap.size := by rw [← hW]; simp only [World.size_alloc]; omega
    have hWa1 : rowAt W (w.heap.size + 1) = gnA g := by rw [← hW]; simp [go_sem]
    have hWo1 : rowOk W (w.heap.size + 1) = true := by rw [← hW]; simp [go_sem]
    clear hW
    have hWA := fun w' (h : New W w') n hn => rowAt_below h n hn
    have hWO := fun w' (h : New W w') n hn => rowOk_below h n hn
    have hWS := fun w' (h : New W w') n (hn : n < W.heap.size) => eq_true (Nat.lt_of_lt_of_le hn h.size)
    have hl2 := hl.new hnW
    have hv2 := hv.new hnW
    have hW := New.rfl' W
    go_wp2_with (first
      | (go_at_call 28; refine (great21 _ _ _ _ _ _ _).mono ?_; rintro e w1 ⟨rfl, rfl⟩)
      | (go_at_call 25; refine (HA.out _ (hl2.new hW) (by omega) hPl).mono ?_; rintro e w3 ⟨rfl, hb⟩; have hW := New.call hW hb; clear hb)
      | (go_at_call 29; refine (HB.out _ (hv2.new hW) (by omega) hPv).mono ?_; rintro e w4 ⟨rfl, hb⟩; have hW := New.call hW hb; clear hb)
      | (go_at_call 31; refine (HC.out _ (hv2.new hW) (by omega) hPv).mono ?_; rintro e w5 ⟨rfl, hb⟩; have hW := New.call hW hb; clear hb))
    go_loopw [15] (fun i wr => ∃ k : Nat, k ≤ l.length ∧ i = .int .i64 k ∧ New W wr) (fun i _ => l.length - (intOf i).toNat)
    case atStart => exact ⟨0, by omega, rfl, hW⟩
    case round =>
      obtain ⟨k, hk, rfl, hr⟩ := hrel
      by_cases hlt : k < l.length
      · skip
        obtain ⟨bhl2, ohl2, rfl, hbhl2, hchl2⟩ := hl2.2 (by omega)
        have hrhl2 : ∀ w', New W w' → ∀ k (hk : k < l.length), w'.cell? ⟨bhl2, ohl2 + k * 11, none⟩ = (itA l[k])[0]? := fun w' hw k hk => (hw.cell (p := ⟨bhl2, _, none⟩) hbhl2).trans (hchl2 k hk 0 (by decide))
        have hshl2 : ∀ w', New W w' → ∀ k (hk : k < l.length) j, j < 11 → w'.cell? ⟨bhl2, ohl2 + k * 11 + j, none⟩ = (itA l[k])[j]? := fun w' hw k hk j hj => (hw.cell (p := ⟨bhl2, _, none⟩) hbhl2).trans (hchl2 k hk j hj)
        clear hchl2
        rcases Bool.eq_false_or_eq_true (l[k].2.2.1 == sq) with e1 | e1
        · go_wp2_with (first
          | (go_at_call 30; refine (lives21 _).mono ?_; rintro e w2 ⟨rfl, rfl⟩))
          go_ret
          exact ⟨rfl, hnW.call hr⟩
        · go_wp2_with fail
          go_roundw
          case rel => exact ⟨k + 1, by omega, by go_num, hr⟩
          case measure => simp [intOf]; omega
      · have hW := hr
        have hL3 := New.rfl' wr
        go_wp2_with (first
          | (go_at_call 32; refine (HDo.out _ _ _ _ _ (hl2.new hW) (hv2.new hW)).mono ?_; rintro e w6 ⟨a, b, rfl, hI, hS, hb⟩; obtain ⟨A1, c1, rfl, _, hI1⟩ := hI.rd; obtain ⟨B1, d1, rfl, _, hS1⟩ := hS.rd; have hW := New.call hW hb; have hL3 := New.rfl' w6; clear hb hI hS))
        go_region_held3 (fun w' => New W w') (first | exact hW | exact New.drew' hW)
          (first
          | (go_at_call_of 33 A1; refine (but_any _ _ _ I _ _ (hI1.new (New.drew' hL3)) (by omega)).mono ?_; rintro e w7 ⟨u7, rfl, hu7, hb⟩; obtain ⟨A7, c7, rfl, _, hu7⟩ := hu7.rd; have hW := (New.drew' hW).call hb; have hL3 := (New.drew' hL3).call hb; clear hb)
          | (go_at_call 33; refine (but_any _ _ _ l _ _ (hl2.new hW) (by omega)).mono ?_; rintro e w8 ⟨u8, rfl, hu8, hb⟩; obtain ⟨A8, c8, rfl, _, hu8⟩ := hu8.rd; have hu7 := hu7.new hb; have hW := hW.call hb; have hL3 := hL3.call hb; clear hb)
          | (go_at_call 18; refine (refsame_t _ _ _ _ _ _ _ _ _ hu7 hu8 (by have := Hbl.out; omega) (by rw [← Hbut.out]; have := Hbl.out; omega) Hbut.out).mono ?_; rintro e w9 ⟨rfl, hb⟩; have hW := hW.call hb; have hL3 := hL3.call hb; clear hb)
          | (go_at_call_of 35 B1; refine (rvdrop_any _ _ _ S _ _ (hS1.new hL3) (by omega) hPS).mono ?_; rintro e w10 ⟨u9, rfl, hu9, hb⟩; obtain ⟨A9, c9, rfl, _, hu9⟩ := hu9.rd; have hW := hW.call hb; have hL3 := hL3.call hb; clear hb)
          | (go_at_call 35; refine (rvdrop_any _ _ _ v _ _ (hv2.new hW) (by omega) hPv).mono ?_; rintro e w11 ⟨u10, rfl, hu10, hb⟩; obtain ⟨A10, c10, rfl, _, hu10⟩ := hu10.rd; have hu9 := hu9.new hb; have hW := hW.call hb; have hL3 := hL3.call hb; clear hb)
          | (go_at_call 34; refine (rvsame_t _ _ _ _ _ _ _ _ _ hu9 hu10 (by have := Hdl.out; omega) (by rw [← Hdrp.out]; have := Hdl.out; omega) Hdrp.out).mono ?_; rintro e w12 ⟨rfl, hb⟩; have hW := hW.call hb; have hL3 := hL3.call hb; clear hb))
        go_wp2_with (first
          | (go_at_call_of 24 A1; refine (rvfind_n _ _ _ I _ _ (hI1.new hL3) (by omega) hPI hf1.out).mono ?_; rintro e w13 ⟨rfl, hb⟩; have hW := hW.call hb; have hL3 := hL3.call hb; clear hb))
        have hnX : New w13 (w13.alloc (Obj.cells (itA itZ) 28)) := (New.rfl' w13).alloc' _
        generalize hX : (w13.alloc (Obj.cells (itA itZ) 28)) = X at *
        have hXz0 : w13.heap.size < X.heap.size := by rw [← hX]; simp only [World.size_alloc]; omega
        have hXa0 : rowAt X (w13.heap.size) = itA itZ := by rw [← hX]; simp [go_sem]
        have hXo0 : rowOk X (w13.heap.size) = true := by rw [← hX]; simp [go_sem]
        clear hX
        have hXA := fun w' (h : New X w') n hn => rowAt_below h n hn
        have hXO := fun w' (h : New X w') n hn => rowOk_below h n hn
        have hXS := fun w' (h : New X w') n (hn : n < X.heap.size) => eq_true (Nat.lt_of_lt_of_le hn h.size)
        have hW := hW.call hnX
        have hL3 := hL3.call hnX
        go_wp2_with (first
          | (go_at_call 30; refine (lives21 _).mono ?_; rintro e w2 ⟨rfl, rfl⟩))
        go_ret
        exact ⟨rfl, hnW.call hW⟩
end Go.Proofs.Ytkgebhmlogddcaa
