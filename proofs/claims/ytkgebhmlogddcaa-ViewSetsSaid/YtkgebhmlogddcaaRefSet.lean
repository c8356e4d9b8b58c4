/- Contracts of the reference of the layer view: Set. -/
import Derived.Test.YtkgebhmlogddcaaPlainS
namespace Go.Proofs.Ytkgebhmlogddcaa
open Go.RowKit
set_option linter.unusedSimpArgs false
attribute [local go_sem] rowAt_alloc_at rowAt_alloc_past rowOk_alloc_at rowOk_alloc_past rowAt_drew rowOk_drew setRow_alloc_at setRow_alloc_past rowAt_setRow rowAt_setRow_far rowOk_setRow cell_rowOk frozen_rowOk setCell_rowOk setRow_setRow con_fold con_get con_size con_set set_all none8_cells equalIn_con storeCells_con
attribute [local go_sem] it_size it_0 it_1 it_2 it_3 it_4 it_5 it_6 it_7 it_8 it_9 it_10 it_set0 it_set1 it_set2 it_fold it_zero it_eta it_fill run_storeCells_it
attribute [local go_sem] sn_size sn_0 sn_1 sn_set0 sn_set1 sn_fold sn_eta sn_fill run_storeCells_sn eqg_sn eqg_it
attribute [local go_sem high] equalIn_sn equalIn_it

def stgS (l : List Sn) (x : Sn) (p k : Nat) : List Sn := if p < k then l.take p ++ [x] ++ (l.drop p).take (k - p) else l.take k
theorem stgS_len (l : List Sn) (x : Sn) (p k : Nat) (hk : k ≤ l.length) : (stgS l x p k).length ≤ k + 1 := by
  unfold stgS; split <;> simp <;> omega
theorem stgS_zero (l : List Sn) (x : Sn) (p : Nat) : stgS l x p 0 = [] := by simp [stgS]
theorem stgS_lt (l : List Sn) (x : Sn) (p k : Nat) (hk : k < l.length) (h : k < p) : stgS l x p (k + 1) = stgS l x p k ++ [l[k]] := by
  rw [stgS, stgS, if_neg (by omega), if_neg (by omega), List.take_succ_eq_append_getElem hk]
theorem stgS_at (l : List Sn) (x : Sn) (p : Nat) (hk : p < l.length) : stgS l x p (p + 1) = stgS l x p p ++ [x] ++ [l[p]] := by
  rw [stgS, stgS, if_pos (by omega), if_neg (by omega), show p + 1 - p = 0 + 1 by omega, List.take_succ_eq_append_getElem (by simp; omega)]
  simp
theorem stgS_gt (l : List Sn) (x : Sn) (p k : Nat) (hk : k < l.length) (h : p < k) : stgS l x p (k + 1) = stgS l x p k ++ [l[k]] := by
  rw [stgS, stgS, if_pos (by omega), if_pos (by omega), show k + 1 - p = (k - p) + 1 by omega, List.take_succ_eq_append_getElem (by simp; omega)]
  simp [show p + (k - p) = k by omega]
theorem stgS_end (l : List Sn) (x : Sn) (p : Nat) (h : p < l.length) : stgS l x p l.length = l.take p ++ [x] ++ l.drop p := by
  rw [stgS, if_pos h, List.take_of_length_le (l := l.drop p) (by simp)]
theorem stgS_last (l : List Sn) (x : Sn) (p : Nat) (h : p = l.length) : stgS l x p l.length ++ [x] = l.take p ++ [x] ++ l.drop p := by
  subst h; simp [stgS]


set_option maxHeartbeats 1600000 in
set_option maxRecDepth 100000 in
theorem rvset_ok (B : Option Addr) (m d : Nat) (v D : List Sn) (id s : Int) (p : Nat) (w : World) (hv : KS.Rd w B m v) (hm : m ≤ 1000) (hPv : PosS v) (hmv : risS 0 v = true) (h0 : id ≠ 0) (hDe : dropS v id = D) (hple : p ≤ D.length) (hbel : ∀ q, (h : q < D.length) → q < p → D[q].1 < id) (habo : ∀ q, (h : q < D.length) → q = p → id < D[q].1) :
    Calls Try.prog 43 #[.slice B m d, .int .u32 id, .int .u64 s] w fun e w' => ∃ u, e = .returned u ∧ KS.Own w' w.heap.size u (D.take p ++ [(id, s)] ++ D.drop p) ∧ New w w' := by
  obtain rfl : v.length = m := hv.1
  have hbel := Lib.hid hbel
  have habo := Lib.hid habo
  have hA1 := rvmay_any B v.length d v
  rw [hmv] at hA1
  have HA := Lib.hid hA1
  have hB1 := rvdrop_any B v.length d v id
  rw [hDe] at hB1
  have HB := Lib.hid hB1
  have hDl : D.length ≤ v.length + 1 := by rw [← hDe]; exact drop_len v id
  clear hA1 hB1 hmv hDe
  have hid0 : (id == 0) = false := by simpa using h0
  go_enter Try.func43, Try.ntmps43
  go_wp2_with (first
      | (go_at_call 35; refine (HB.out _ hv (by omega) hPv).mono ?_; rintro e w2 ⟨u2, rfl, hu2, hb2⟩; obtain ⟨A2, c2, rfl, _, hD⟩ := hu2.rd)
      | (go_at_call 29; refine (HA.out _ (hv.new hb2) (by omega) hPv).mono ?_; rintro e W ⟨rfl, hb⟩; have hb3 := New.call hb2 hb; have hD := hD.new hb; clear hb))
  go_loopw [8, 9, 10] (fun v b i wr => ∃ k : Nat, k ≤ D.length ∧ i = .int .i64 k ∧ b = .bool (decide (p < k)) ∧ New W wr ∧ KS.Own wr W.heap.size v (stgS D (id, s) p k)) (fun _ _ i _ => D.length - (intOf i).toNat)
  case atStart => exact ⟨0, by omega, rfl, by simp, New.rfl' W, by rw [stgS_zero]; exact Kind.Own.nil⟩
  case round =>
    obtain ⟨k, hk, rfl, rfl, hr, hv⟩ := hrel
    have hlen := stgS_len D (id, s) p k hk
    by_cases hlt : k < D.length
    · by_cases hkp : p < k
      · have hst := Lib.hid (stgS_gt D (id, s) p k hlt hkp)
        obtain ⟨bhD, ohD, rfl, hbhD, hchD⟩ := hD.2 (by omega)
        have hrhD : ∀ w', New W w' → ∀ k (hk : k < D.length), w'.cell? ⟨bhD, ohD + k * 2, none⟩ = (snA D[k])[0]? := fun w' hw k hk => (hw.cell (p := ⟨bhD, _, none⟩) hbhD).trans (hchD k hk 0 (by decide))
        have hshD : ∀ w', New W w' → ∀ k (hk : k < D.length) j, j < 2 → w'.cell? ⟨bhD, ohD + k * 2 + j, none⟩ = (snA D[k])[j]? := fun w' hw k hk j hj => (hw.cell (p := ⟨bhD, _, none⟩) hbhD).trans (hchD k hk j hj)
        clear hchD
        generalize stgS D (id, s) p k = L at *
        have hd : decide (p < k) = true := by simpa using hkp
        have hr' := hr
        have hv' := hv
        go_wp2_with (first
            | (at_builtin; refine Kind.wpList_append1 rfl _ _ rfl rfl (hv'.alloc _) D[k] wr.heap.size rfl (by go_simp) (by go_simp <;> rfl) (by omega) KS_b (by have := hr'.size; simp only [World.size_alloc]; omega) ?_; intro v' w2 hv2 _ hg))
        go_roundw
        case rel => exact ⟨k + 1, by omega, by go_num, by rw [decide_eq_true (show p < k + 1 by omega)], Kind.Own.grown (hr'.alloc' _) (hv'.alloc _) hg, by rw [hst.out]; exact hv2⟩
        case measure => simp [intOf]; omega
      · rcases Nat.lt_or_eq_of_le (Nat.le_of_not_lt hkp) with hkp2 | rfl
        · have hst := Lib.hid (stgS_lt D (id, s) p k hlt hkp2)
          have hc2 : ¬ id < D[k].1 := by have := hbel.out k hlt hkp2; omega
          obtain ⟨bhD, ohD, rfl, hbhD, hchD⟩ := hD.2 (by omega)
          have hrhD : ∀ w', New W w' → ∀ k (hk : k < D.length), w'.cell? ⟨bhD, ohD + k * 2, none⟩ = (snA D[k])[0]? := fun w' hw k hk => (hw.cell (p := ⟨bhD, _, none⟩) hbhD).trans (hchD k hk 0 (by decide))
          have hshD : ∀ w', New W w' → ∀ k (hk : k < D.length) j, j < 2 → w'.cell? ⟨bhD, ohD + k * 2 + j, none⟩ = (snA D[k])[j]? := fun w' hw k hk j hj => (hw.cell (p := ⟨bhD, _, none⟩) hbhD).trans (hchD k hk j hj)
          clear hchD
          generalize stgS D (id, s) p k = L at *
          have hd : decide (p < k) = false := by simpa using hkp
          have hr' := hr
          have hv' := hv
          go_wp2_with (first
            | (at_builtin; refine Kind.wpList_append1 rfl _ _ rfl rfl (hv'.alloc _) D[k] wr.heap.size rfl (by go_simp) (by go_simp <;> rfl) (by omega) KS_b (by have := hr'.size; simp only [World.size_alloc]; omega) ?_; intro v' w2 hv2 _ hg))
          go_roundw
          case rel => exact ⟨k + 1, by omega, by go_num, by rw [decide_eq_false (show ¬ p < k + 1 by omega)], Kind.Own.grown (hr'.alloc' _) (hv'.alloc _) hg, by rw [hst.out]; exact hv2⟩
          case measure => simp [intOf]; omega
        · have hst := Lib.hid (stgS_at D (id, s) k hlt)
          have hc2 : id < D[k].1 := habo.out k hlt rfl
          obtain ⟨bhD, ohD, rfl, hbhD, hchD⟩ := hD.2 (by omega)
          have hrhD : ∀ w', New W w' → ∀ k (hk : k < D.length), w'.cell? ⟨bhD, ohD + k * 2, none⟩ = (snA D[k])[0]? := fun w' hw k hk => (hw.cell (p := ⟨bhD, _, none⟩) hbhD).trans (hchD k hk 0 (by decide))
          have hshD : ∀ w', New W w' → ∀ k (hk : k < D.length) j, j < 2 → w'.cell? ⟨bhD, ohD + k * 2 + j, none⟩ = (snA D[k])[j]? := fun w' hw k hk j hj => (hw.cell (p := ⟨bhD, _, none⟩) hbhD).trans (hchD k hk j hj)
          clear hchD
          generalize stgS D (id, s) k k = L at *
          have hr' := hr
          have hv' := hv
          go_wp2_with (first
            | (at_builtin; refine Kind.wpList_append1 rfl _ _ rfl rfl (hv'.alloc _) (id, s) wr.heap.size rfl (by go_simp) (by go_simp <;> rfl) (by omega) KS_b (by have := hr'.size; simp only [World.size_alloc]; omega) ?_; intro v' w2 hv2 _ hg; have hr2 : New W w2 := Kind.Own.grown (hr'.alloc' _) (hv'.alloc _) hg; clear hg)
            | (at_builtin; refine Kind.wpList_append1 rfl _ _ rfl rfl (hv2.alloc _) D[k] w2.heap.size rfl (by go_simp) (by go_simp <;> rfl) (by simp; omega) KS_b (by have := hr2.size; simp only [World.size_alloc]; omega) ?_; intro v' w3 hv3 _ hg; have hr3 : New W w3 := Kind.Own.grown (hr2.alloc' _) (hv2.alloc _) hg; clear hg))
          go_roundw
          case rel => exact ⟨k + 1, by omega, by go_num, by rw [decide_eq_true (show k < k + 1 by omega)], hr3, by rw [hst.out]; exact hv3⟩
          case measure => simp [intOf]; omega
    · obtain rfl : k = D.length := by omega
      by_cases hkp : p < D.length
      · have hst := Lib.hid (stgS_end D (id, s) p hkp)
        have hd : decide (p < D.length) = true := by simpa using hkp
        generalize stgS D (id, s) p D.length = L at *
        go_wp2_with fail
        go_ret
        exact ⟨_, rfl, by rw [← hst.out]; exact hv.lower hb3.size, hb3.call hr⟩
      · have hst := Lib.hid (stgS_last D (id, s) p (by omega))
        have hd : decide (p < D.length) = false := by simpa using hkp
        generalize stgS D (id, s) p D.length = L at *
        go_wp2_with (first
            | (at_builtin; refine Kind.wpList_append1 rfl _ _ rfl rfl (hv.alloc _) (id, s) wr.heap.size rfl (by go_simp) (by go_simp <;> rfl) (by omega) KS_b (by have := hr.size; simp only [World.size_alloc]; omega) ?_; intro v' w2 hv2 _ hg; have hr2 : New W w2 := Kind.Own.grown (hr.alloc' _) (hv.alloc _) hg; clear hg))
        go_ret
        exact ⟨_, rfl, by rw [← hst.out]; exact hv2.lower hb3.size, hb3.call hr2⟩


set_option maxHeartbeats 800000 in
set_option maxRecDepth 100000 in
theorem rvset_zero (B : Option Addr) (m d : Nat) (v : List Sn) (s : Int) (w : World) (hv : KS.Rd w B m v) (hm : m ≤ 1000) (hPv : PosS v) :
    Calls Try.prog 43 #[.slice B m d, .int .u32 0, .int .u64 s] w fun e w' => ∃ u, e = .returned u ∧ KS.Own w' w.heap.size u (dropS v 0) ∧ New w w' := by
  have HB := Lib.hid (rvdrop_any B m d v 0)
  go_enter Try.func43, Try.ntmps43
  go_wp2_with (first
      | (go_at_call 35; refine (HB.out _ hv (by omega) hPv).mono ?_; rintro e w2 ⟨u2, rfl, hu2, hb2⟩; obtain ⟨A2, c2, rfl, _, hD⟩ := hu2.rd))
  go_ret
  exact ⟨_, rfl, hu2, hb2⟩
set_option maxHeartbeats 800000 in
set_option maxRecDepth 100000 in
theorem rvset_bad (B : Option Addr) (m d : Nat) (v : List Sn) (id s : Int) (w : World) (hv : KS.Rd w B m v) (hm : m ≤ 1000) (hPv : PosS v) (hmv : risS 0 v = false) :
    Calls Try.prog 43 #[.slice B m d, .int .u32 id, .int .u64 s] w fun e w' => ∃ u, e = .returned u ∧ KS.Own w' w.heap.size u [] ∧ New w w' := by
  have hA1 := rvmay_any B m d v
  rw [hmv] at hA1
  have HA := Lib.hid hA1
  have hB1 := rvdrop_any B m d v id
  rw [show dropS v id = [] from by rw [dropS, hmv]; rfl] at hB1
  have HB := Lib.hid hB1
  clear hA1 hB1 hmv
  by_cases h0 : id = 0
  · subst h0
    go_enter Try.func43, Try.ntmps43
    go_wp2_with (first
      | (go_at_call 35; refine (HB.out _ hv (by omega) hPv).mono ?_; rintro e w2 ⟨u2, rfl, hu2, hb2⟩; obtain ⟨A2, c2, rfl, _, hD⟩ := hu2.rd; have hb3 := hb2)
      | (go_at_call 29; refine (HA.out _ (hv.new hb2) (by omega) hPv).mono ?_; rintro e W ⟨rfl, hb⟩; have hb3 := New.call hb2 hb; have hu2 := hu2.new hb; clear hb))
    go_ret
    exact ⟨_, rfl, hu2, hb3⟩
  · have hid0 : (id == 0) = false := by simpa using h0
    clear h0
    go_enter Try.func43, Try.ntmps43
    go_wp2_with (first
      | (go_at_call 35; refine (HB.out _ hv (by omega) hPv).mono ?_; rintro e w2 ⟨u2, rfl, hu2, hb2⟩; obtain ⟨A2, c2, rfl, _, hD⟩ := hu2.rd; have hb3 := hb2)
      | (go_at_call 29; refine (HA.out _ (hv.new hb2) (by omega) hPv).mono ?_; rintro e W ⟨rfl, hb⟩; have hb3 := New.call hb2 hb; have hu2 := hu2.new hb; clear hb))
    go_ret
    exact ⟨_, rfl, hu2, hb3⟩
/-- a view with an Id: the reference's answer -/
theorem rvset_any (B : Option Addr) (m d : Nat) (v : List Sn) (id s : Int) (w : World) (hv : KS.Rd w B m v) (hm : m ≤ 1000) (hPv : PosS v) :
    Calls Try.prog 43 #[.slice B m d, .int .u32 id, .int .u64 s] w fun e w' => ∃ u, e = .returned u ∧ KS.Own w' w.heap.size u (setS v id s) ∧ New w w' := by
  rcases Bool.eq_false_or_eq_true (risS 0 v) with hmv | hmv
  · by_cases h0 : id = 0
    · subst h0
      have hd : setS v 0 s = dropS v 0 := by
        rw [setS, if_pos hmv, if_pos rfl, dropS, if_pos hmv]
        symm
        rw [List.filter_eq_self]
        intro x hx
        have := ((sris_pw v 0).1 hmv).1 x hx
        simp; omega
      rw [hd]
      exact rvset_zero B m d v s w hv hm hPv
    · obtain ⟨A, M, C, hS, hvs, hM, hA, hC⟩ := set_split s hmv h0
      have hD : dropS v id = A ++ C := by
        rw [dropS, if_pos hmv, hvs]
        have e1 : M.filter (fun x => x.1 != id) = [] := by
          rw [List.filter_eq_nil_iff]; intro x hx; simp [hM x hx]
        have e2 : A.filter (fun x => x.1 != id) = A := by
          rw [List.filter_eq_self]; intro x hx; have := hA x hx; simp; omega
        have e3 : C.filter (fun x => x.1 != id) = C := by
          rw [List.filter_eq_self]; intro x hx; have := hC x hx; simp; omega
        rw [List.filter_append, List.filter_append, e1, e2, e3, List.append_nil]
      have := rvset_ok B m d v (A ++ C) id s A.length w hv hm hPv hmv h0 hD (by simp) (fun q h hq => by
        rw [List.getElem_append_left (by omega)]; exact hA _ (List.getElem_mem _)) (fun q h hq => by
        rw [List.getElem_append_right (by omega)]; exact hC _ (List.getElem_mem _))
      rw [List.take_left, List.drop_left, ← hS] at this
      exact this
  · rw [show setS v id s = [] from by rw [setS, hmv]; rfl]
    exact rvset_bad B m d v id s w hv hm hPv hmv
end Go.Proofs.Ytkgebhmlogddcaa
