/- Contracts of the reference of the layer item: Add; all three whole. -/
import Derived.Test.YtkgebhmlogddcaaItemRef5
namespace Go.Proofs.Ytkgebhmlogddcaa
open Go.RowKit
set_option linter.unusedSimpArgs false
attribute [local go_sem] rowAt_alloc_at rowAt_alloc_past rowOk_alloc_at rowOk_alloc_past rowAt_drew rowOk_drew setRow_alloc_at setRow_alloc_past rowAt_setRow rowAt_setRow_far rowOk_setRow cell_rowOk frozen_rowOk setCell_rowOk setRow_setRow con_fold con_get con_size con_set set_all none8_cells equalIn_con storeCells_con
attribute [local go_sem] it_size it_0 it_1 it_2 it_3 it_4 it_5 it_6 it_7 it_8 it_9 it_10 it_set0 it_set1 it_set2 it_fold it_zero it_eta it_fill run_storeCells_it
attribute [local go_sem high] equalIn_it
attribute [local go_sem] run_storeCells_itp eqg_it

theorem posI_cons_lt (x : It) (l : List It) (id : Int) (h : x.1 < id) : posI (x :: l) id = posI l id + 1 := by simp [posI, List.takeWhile_cons, h]
theorem posI_cons_ge (x : It) (l : List It) (id : Int) (h : ¬ x.1 < id) : posI (x :: l) id = 0 := by simp [posI, List.takeWhile_cons, h]
theorem posI_below (l : List It) (id : Int) : ∀ q, (h : q < l.length) → q < posI l id → l[q].1 < id := by
  induction l with
  | nil => intro q h; simp at h
  | cons x l ih =>
    intro q h hq
    by_cases hx : x.1 < id
    · rw [posI_cons_lt x l id hx] at hq
      cases q with
      | zero => exact hx
      | succ q => exact ih q (by simpa using h) (by omega)
    · rw [posI_cons_ge x l id hx] at hq; omega
theorem posI_here (l : List It) (id : Int) : ∀ q, (h : q < l.length) → q = posI l id → id ≤ l[q].1 := by
  induction l with
  | nil => intro q h; simp at h
  | cons x l ih =>
    intro q h hq
    by_cases hx : x.1 < id
    · rw [posI_cons_lt x l id hx] at hq
      subst hq
      exact ih _ (by simpa using h) rfl
    · rw [posI_cons_ge x l id hx] at hq
      subst hq
      simp only [List.getElem_cons_zero]
      omega
def stgI (l : List It) (x : It) (p k : Nat) : List It := if p < k then l.take p ++ [x] ++ (l.drop p).take (k - p) else l.take k
theorem stgI_len (l : List It) (x : It) (p k : Nat) (hk : k ≤ l.length) : (stgI l x p k).length ≤ k + 1 := by
  unfold stgI; split <;> simp <;> omega
theorem stgI_zero (l : List It) (x : It) (p : Nat) : stgI l x p 0 = [] := by simp [stgI]
theorem stgI_lt (l : List It) (x : It) (p k : Nat) (hk : k < l.length) (h : k < p) : stgI l x p (k + 1) = stgI l x p k ++ [l[k]] := by
  rw [stgI, stgI, if_neg (by omega), if_neg (by omega), List.take_succ_eq_append_getElem hk]
theorem stgI_at (l : List It) (x : It) (p : Nat) (hk : p < l.length) : stgI l x p (p + 1) = stgI l x p p ++ [x] ++ [l[p]] := by
  rw [stgI, stgI, if_pos (by omega), if_neg (by omega), show p + 1 - p = 0 + 1 by omega, List.take_succ_eq_append_getElem (by simp; omega)]
  simp
theorem stgI_gt (l : List It) (x : It) (p k : Nat) (hk : k < l.length) (h : p < k) : stgI l x p (k + 1) = stgI l x p k ++ [l[k]] := by
  rw [stgI, stgI, if_pos (by omega), if_pos (by omega), show k + 1 - p = (k - p) + 1 by omega, List.take_succ_eq_append_getElem (by simp; omega)]
  simp [show p + (k - p) = k by omega]
theorem stgI_end (l : List It) (x : It) (p : Nat) (h : p < l.length) : stgI l x p l.length = l.take p ++ [x] ++ l.drop p := by
  rw [stgI, if_pos h, List.take_of_length_le (l := l.drop p) (by simp)]
theorem stgI_last (l : List It) (x : It) (p : Nat) (h : p = l.length) : stgI l x p l.length ++ [x] = l.take p ++ [x] ++ l.drop p := by
  subst h; simp [stgI]

set_option maxHeartbeats 1600000 in
set_option maxRecDepth 100000 in
theorem refAdd_ok (A : Option Addr) (n c : Nat) (l : List It) (x : It) (w : World) (hl : KI.Rd w A n l) (hP : PosI l) (hm : mayI l = true) (h1 : (x.1 == 0) = false) (h2 : (x.2.1 == 0) = false) (h3 : hasI l x.1 = false) (h4 : l.length < 40) :
    Calls Try.prog 13 #[.slice A n c, .agg (itA x)] w fun e w' => ∃ v, e = .returned (.tuple #[v, .int .i64 0]) ∧ KI.Own w' w.heap.size v (insI l x) ∧ New w w' := by
  obtain rfl : l.length = n := hl.1
  have hple := posI_le l x.1
  have hbel := Lib.hid (posI_below l x.1)
  have habo := Lib.hid (show ∀ q, (h : q < l.length) → q = posI l x.1 → x.1 < l[q].1 from fun q h hq => by
    have h5 := posI_here l x.1 q h hq
    by_cases e : l[q].1 = x.1
    · rw [(hasI_iff l x.1).2 ⟨q, h, e⟩] at h3; cases h3
    · omega)
  rw [insI]
  have hA1 := refmay_any A l.length c l
  rw [hm] at hA1
  have HA := Lib.hid hA1
  have hB1 := refplace_any A l.length c l x.1
  rw [show atI l x.1 = -1 by rw [atI, h3]; rfl] at hB1
  have HB := Lib.hid hB1
  have h40 : (l.length : Int) < 40 := by omega
  clear hA1 hB1 hm h3
  generalize posI l x.1 = p at *
  have hl0 := hl
  go_enter Try.func13, Try.ntmps13
  go_wp2_with fail
  have hnW : New w (w.alloc (Obj.cells (itA x) 28)) := (New.rfl' w).alloc' _
  generalize hW : (w.alloc (Obj.cells (itA x) 28)) = W at *
  have hWz0 : w.heap.size < W.heap.size := by rw [← hW]; simp only [World.size_alloc]; omega
  have hWa0 : rowAt W (w.heap.size) = itA x := by rw [← hW]; simp [go_sem]
  have hWo0 : rowOk W (w.heap.size) = true := by rw [← hW]; simp [go_sem]
  clear hW
  have hWA := fun w' (h : New W w') n hn => rowAt_below h n hn
  have hWO := fun w' (h : New W w') n hn => rowOk_below h n hn
  have hWS := fun w' (h : New W w') n (hn : n < W.heap.size) => eq_true (Nat.lt_of_lt_of_le hn h.size)
  have hl2 := hl.new hnW
  have hl3 := hl2
  go_wp2_with (first
      | (go_at_call 25; refine (HA.out _ hl3 (by omega) hP).mono ?_; rintro e w1 ⟨rfl, hb1⟩)
      | (go_at_call 49; refine (HB.out _ (hl3.new hb1) (by omega)).mono ?_; rintro e w2 ⟨rfl, hb⟩; have hb2 := New.call hb1 hb; clear hb))
  go_loopw [6, 7, 8] (fun v b i wr => ∃ k : Nat, k ≤ l.length ∧ i = .int .i64 k ∧ b = .bool (decide (p < k)) ∧ New W wr ∧ KI.Own wr W.heap.size v (stgI l x p k)) (fun _ _ i _ => l.length - (intOf i).toNat)
  case atStart => exact ⟨0, by omega, rfl, by simp, hb2, by rw [stgI_zero]; exact Kind.Own.nil⟩
  case round =>
    obtain ⟨k, hk, rfl, rfl, hr, hv⟩ := hrel
    have hlen := stgI_len l x p k hk
    by_cases hlt : k < l.length
    · by_cases hkp : p < k
      · have hst := Lib.hid (stgI_gt l x p k hlt hkp)
        obtain ⟨bhl2, ohl2, rfl, hbhl2, hchl2⟩ := hl2.2 (by omega)
        have hrhl2 : ∀ w', New W w' → ∀ k (hk : k < l.length), w'.cell? ⟨bhl2, ohl2 + k * 11, none⟩ = (itA l[k])[0]? := fun w' hw k hk => (hw.cell (p := ⟨bhl2, _, none⟩) hbhl2).trans (hchl2 k hk 0 (by decide))
        have hshl2 : ∀ w', New W w' → ∀ k (hk : k < l.length) j, j < 11 → w'.cell? ⟨bhl2, ohl2 + k * 11 + j, none⟩ = (itA l[k])[j]? := fun w' hw k hk j hj => (hw.cell (p := ⟨bhl2, _, none⟩) hbhl2).trans (hchl2 k hk j hj)
        clear hchl2
        generalize stgI l x p k = L at *
        have hd : decide (p < k) = true := by simpa using hkp
        go_wp2_with fail
        go_quiet (fail)
        have hr' : New W (wr.drewN nq) := below_drewN hr nq
        have hv' := hv.new (below_drewN (New.rfl' wr) nq)
        generalize wr.drewN nq = wq at *
        go_wp2_with (first
            | (at_builtin; refine Kind.wpList_append1 rfl _ _ rfl rfl (hv'.alloc _) l[k] wq.heap.size rfl (by go_simp) (by go_simp <;> rfl) (by omega) KI_b (by have := hr'.size; simp only [World.size_alloc]; omega) ?_; intro v' w2 hv2 _ hg))
        go_roundw
        case rel => exact ⟨k + 1, by omega, by go_num, by rw [decide_eq_true (show p < k + 1 by omega)], Kind.Own.grown (hr'.alloc' _) (hv'.alloc _) hg, by rw [hst.out]; exact hv2⟩
        case measure => simp [intOf]; omega
      · rcases Nat.lt_or_eq_of_le (Nat.le_of_not_lt hkp) with hkp2 | rfl
        · have hst := Lib.hid (stgI_lt l x p k hlt hkp2)
          have hc2 : ¬ x.1 < l[k].1 := by have := hbel.out k hlt hkp2; omega
          obtain ⟨bhl2, ohl2, rfl, hbhl2, hchl2⟩ := hl2.2 (by omega)
          have hrhl2 : ∀ w', New W w' → ∀ k (hk : k < l.length), w'.cell? ⟨bhl2, ohl2 + k * 11, none⟩ = (itA l[k])[0]? := fun w' hw k hk => (hw.cell (p := ⟨bhl2, _, none⟩) hbhl2).trans (hchl2 k hk 0 (by decide))
          have hshl2 : ∀ w', New W w' → ∀ k (hk : k < l.length) j, j < 11 → w'.cell? ⟨bhl2, ohl2 + k * 11 + j, none⟩ = (itA l[k])[j]? := fun w' hw k hk j hj => (hw.cell (p := ⟨bhl2, _, none⟩) hbhl2).trans (hchl2 k hk j hj)
          clear hchl2
          generalize stgI l x p k = L at *
          have hd : decide (p < k) = false := by simpa using hkp
          go_wp2_with fail
          go_quiet (fail)
          have hr' : New W (wr.drewN nq) := below_drewN hr nq
          have hv' := hv.new (below_drewN (New.rfl' wr) nq)
          generalize wr.drewN nq = wq at *
          go_wp2_with (first
            | (at_builtin; refine Kind.wpList_append1 rfl _ _ rfl rfl (hv'.alloc _) l[k] wq.heap.size rfl (by go_simp) (by go_simp <;> rfl) (by omega) KI_b (by have := hr'.size; simp only [World.size_alloc]; omega) ?_; intro v' w2 hv2 _ hg))
          go_roundw
          case rel => exact ⟨k + 1, by omega, by go_num, by rw [decide_eq_false (show ¬ p < k + 1 by omega)], Kind.Own.grown (hr'.alloc' _) (hv'.alloc _) hg, by rw [hst.out]; exact hv2⟩
          case measure => simp [intOf]; omega
        · have hst := Lib.hid (stgI_at l x k hlt)
          have hc2 : x.1 < l[k].1 := habo.out k hlt rfl
          obtain ⟨bhl2, ohl2, rfl, hbhl2, hchl2⟩ := hl2.2 (by omega)
          have hrhl2 : ∀ w', New W w' → ∀ k (hk : k < l.length), w'.cell? ⟨bhl2, ohl2 + k * 11, none⟩ = (itA l[k])[0]? := fun w' hw k hk => (hw.cell (p := ⟨bhl2, _, none⟩) hbhl2).trans (hchl2 k hk 0 (by decide))
          have hshl2 : ∀ w', New W w' → ∀ k (hk : k < l.length) j, j < 11 → w'.cell? ⟨bhl2, ohl2 + k * 11 + j, none⟩ = (itA l[k])[j]? := fun w' hw k hk j hj => (hw.cell (p := ⟨bhl2, _, none⟩) hbhl2).trans (hchl2 k hk j hj)
          clear hchl2
          generalize stgI l x k k = L at *
          go_wp2_with fail
          go_quiet (fail)
          have hr' : New W (wr.drewN nq) := below_drewN hr nq
          have hv' := hv.new (below_drewN (New.rfl' wr) nq)
          generalize wr.drewN nq = wq at *
          go_wp2_with (first
            | (at_builtin; refine Kind.wpList_append1 rfl _ _ rfl rfl (hv'.alloc _) x wq.heap.size rfl (by go_simp) (by go_simp <;> rfl) (by omega) KI_b (by have := hr'.size; simp only [World.size_alloc]; omega) ?_; intro v' w2 hv2 _ hg; have hr2 : New W w2 := Kind.Own.grown (hr'.alloc' _) (hv'.alloc _) hg; clear hg)
            | (at_builtin; refine Kind.wpList_append1 rfl _ _ rfl rfl (hv2.alloc _) l[k] w2.heap.size rfl (by go_simp) (by go_simp <;> rfl) (by simp; omega) KI_b (by have := hr2.size; simp only [World.size_alloc]; omega) ?_; intro v' w3 hv3 _ hg; have hr3 : New W w3 := Kind.Own.grown (hr2.alloc' _) (hv2.alloc _) hg; clear hg))
          go_roundw
          case rel => exact ⟨k + 1, by omega, by go_num, by rw [decide_eq_true (show k < k + 1 by omega)], hr3, by rw [hst.out]; exact hv3⟩
          case measure => simp [intOf]; omega
    · obtain rfl : k = l.length := by omega
      by_cases hkp : p < l.length
      · have hst := Lib.hid (stgI_end l x p hkp)
        have hd : decide (p < l.length) = true := by simpa using hkp
        generalize stgI l x p l.length = L at *
        go_wp2_with fail
        go_ret2
        exact ⟨_, rfl, by rw [← hst.out]; exact hv.lower hnW.size, hnW.call hr⟩
      · have hst := Lib.hid (stgI_last l x p (by omega))
        have hd : decide (p < l.length) = false := by simpa using hkp
        generalize stgI l x p l.length = L at *
        go_wp2_with (first
            | (at_builtin; refine Kind.wpList_append1 rfl _ _ rfl rfl (hv.alloc _) x wr.heap.size rfl (by go_simp) (by go_simp <;> rfl) (by omega) KI_b (by have := hr.size; simp only [World.size_alloc]; omega) ?_; intro v' w2 hv2 _ hg; have hr2 : New W w2 := Kind.Own.grown (hr.alloc' _) (hv.alloc _) hg; clear hg))
        go_ret2
        exact ⟨_, rfl, by rw [← hst.out]; exact hv2.lower hnW.size, hnW.call hr2⟩

/-! ### whole -/
theorem refAdd_any (A : Option Addr) (n c : Nat) (l : List It) (x : It) (w : World) (hl : KI.Rd w A n l) (hP : PosI l) (hn : n ≤ 140737488355328) :
    Calls Try.prog 13 #[.slice A n c, .agg (itA x)] w fun e w' => ∃ v, e = .returned (.tuple #[v, .int .i64 (addI l x).2]) ∧ KI.Own w' w.heap.size v (addI l x).1 ∧ New w w' := by
  unfold addI
  cases hm : mayI l
  · refine (refAdd_bad1 A n c l x w hl hn hP hm).mono ?_; rintro e w' ⟨rfl, hb⟩; exact ⟨_, rfl, Kind.Own.nil, hb⟩
  cases h1 : (x.1 == 0)
  case true => refine (refAdd_bad2 A n c l x w hl hn hP hm h1).mono ?_; rintro e w' ⟨rfl, hb⟩; exact ⟨_, rfl, Kind.Own.nil, hb⟩
  cases h2 : (x.2.1 == 0)
  case true => refine (refAdd_bad3 A n c l x w hl hn hP hm h1 h2).mono ?_; rintro e w' ⟨rfl, hb⟩; exact ⟨_, rfl, Kind.Own.nil, hb⟩
  cases h3 : hasI l x.1
  case true => refine (refAdd_twice A n c l x w hl hn hP hm h1 h2 h3).mono ?_; rintro e w' ⟨rfl, hb⟩; exact ⟨_, rfl, Kind.Own.nil, hb⟩
  by_cases h40 : l.length = 40
  · refine (refAdd_limit A n c l x w hl hn hP hm h1 h2 h3 (by omega)).mono ?_; rintro e w' ⟨rfl, hb⟩; simp only [h40]; exact ⟨_, rfl, Kind.Own.nil, hb⟩
  · refine (refAdd_ok A n c l x w hl hP hm h1 h2 h3 (by have := mayI_len l hm; omega)).mono ?_; rintro e w' ⟨v, rfl, hv, hb⟩; simp only [h40]; exact ⟨_, rfl, hv, hb⟩
theorem refChange_any (A : Option Addr) (n c : Nat) (l : List It) (x : It) (w : World) (hl : KI.Rd w A n l) (hP : PosI l) (hn : n ≤ 140737488355328) :
    Calls Try.prog 15 #[.slice A n c, .agg (itA x)] w fun e w' => ∃ v, e = .returned (.tuple #[v, .int .i64 (changeI l x).2]) ∧ KI.Own w' w.heap.size v (changeI l x).1 ∧ New w w' := by
  unfold changeI
  cases hm : mayI l
  · refine (refChange_bad1 A n c l x w hl hn hP hm).mono ?_; rintro e w' ⟨rfl, hb⟩; exact ⟨_, rfl, Kind.Own.nil, hb⟩
  cases h2 : (x.2.1 == 0)
  case true => refine (refChange_bad2 A n c l x w hl hn hP hm h2).mono ?_; rintro e w' ⟨rfl, hb⟩; exact ⟨_, rfl, Kind.Own.nil, hb⟩
  cases h3 : hasI l x.1
  · refine (refChange_none A n c l x w hl hn hP hm h2 h3).mono ?_; rintro e w' ⟨rfl, hb⟩; exact ⟨_, rfl, Kind.Own.nil, hb⟩
  · refine (refChange_ok A n c l x w hl hP hm h2 h3).mono ?_; rintro e w' ⟨v, rfl, hv, hb⟩; exact ⟨_, rfl, hv, hb⟩
theorem refDrop_any (A : Option Addr) (n c : Nat) (l : List It) (id : Int) (w : World) (hl : KI.Rd w A n l) (hc : n ≤ c) (hP : PosI l) (hn : n ≤ 140737488355328) :
    Calls Try.prog 17 #[.slice A n c, .int .u32 id] w fun e w' => ∃ v, e = .returned (.tuple #[v, .int .i64 (dropI l id).2]) ∧ KI.Own w' w.heap.size v (dropI l id).1 ∧ New w w' := by
  unfold dropI
  cases hm : mayI l
  · refine (refDrop_bad A n c l id w hl hn hP hm).mono ?_; rintro e w' ⟨rfl, hb⟩; exact ⟨_, rfl, Kind.Own.nil, hb⟩
  cases h3 : hasI l id
  · refine (refDrop_none A n c l id w hl hn hP hm h3).mono ?_; rintro e w' ⟨rfl, hb⟩; exact ⟨_, rfl, Kind.Own.nil, hb⟩
  · refine (refDrop_ok A n c l id w hl hc hP hm h3).mono ?_; rintro e w' ⟨v, rfl, hv, hb⟩; exact ⟨_, rfl, hv, hb⟩
end Go.Proofs.Ytkgebhmlogddcaa
