/- Contracts: the reference's Of; slices.Clone at what was told and at items. -/
import Derived.Test.YtkgebhmlogddcaaView2
import Derived.Laws.Cover3
namespace Go.Proofs.Ytkgebhmlogddcaa
open Go.RowKit
set_option linter.unusedSimpArgs false
attribute [local go_sem] rowAt_alloc_at rowAt_alloc_past rowOk_alloc_at rowOk_alloc_past rowAt_drew rowOk_drew setRow_alloc_at setRow_alloc_past rowAt_setRow rowAt_setRow_far rowOk_setRow cell_rowOk frozen_rowOk setCell_rowOk setRow_setRow con_fold con_get con_size con_set set_all none8_cells equalIn_con storeCells_con
attribute [local go_sem] it_size it_0 it_1 it_2 it_3 it_4 it_5 it_6 it_7 it_8 it_9 it_10 it_set0 it_set1 it_set2 it_fold it_zero it_eta it_fill run_storeCells_it
attribute [local go_sem] sn_size sn_0 sn_1 sn_set0 sn_set1 sn_fold sn_eta sn_fill run_storeCells_sn eqg_sn eqg_it
attribute [local go_sem high] equalIn_sn equalIn_it

theorem run_eql_slice_nil {P : Program} (w : World) (t e : TypeId) (a : Option Addr) (l c : Nat) (h : P.underlying t = some (.slice e)) : (binOp .eql t (.slice a l c) (.slice none 0 0)).run P w = .ok (.bool a.isNone) w := by
  simp only [binOp]
  simp [run_equal_slice_nil w t e a l c h]
attribute [local go_sem] run_eql_slice_nil
/-- a row of no cells, newly made -/
theorem Kind.Own.empty {α : Type} (K : Kind α) (w : World) : K.Own (w.alloc (Obj.cells #[] K.e)) w.heap.size (.slice (some ⟨w.heap.size, 0, none⟩) 0 0) [] :=
  World.ownsRow_lit (base := w.heap.size) (e := K.e) (size := K.sz) w #[] 0 (Nat.le_refl _) (Nat.zero_le _) (by simp)

set_option maxHeartbeats 800000 in
set_option maxRecDepth 100000 in
theorem cloneS_any (A : Option Addr) (n c : Nat) (l : List Sn) (w : World) (hl : KS.Rd w A n l) (hn : n ≤ 1000) :
    Calls Try.prog 57 #[.slice A n c] w fun e w' => ∃ v, e = .returned v ∧ KS.Own w' w.heap.size v l ∧ New w w' := by
  obtain rfl : l.length = n := hl.1
  cases A with
  | none =>
    have hm : l = [] := by
      cases l with
      | nil => rfl
      | cons x m => obtain ⟨b, o, h, _⟩ := hl.2 (by simp); cases h
    subst hm
    go_enter Try.func57, Try.ntmps57
    go_wp2_with fail
    go_ret
    exact ⟨_, rfl, Kind.Own.nil, New.rfl' w⟩
  | some ad =>
    go_enter Try.func57, Try.ntmps57
    go_wp2_with (first
      | (at_builtin; refine Kind.wpList_appendN rfl _ _ rfl rfl (Kind.Own.empty KS w) rfl (hl.alloc _) (by simp; omega) KS_b (by simp only [World.size_alloc]; omega) ?_; intro v' w2 hv hg; have hr : New w w2 := Kind.Own.grown ((New.rfl' w).alloc' _) (Kind.Own.empty KS w) hg; rw [List.nil_append] at hv; clear hg))
    go_ret
    exact ⟨_, rfl, hv, hr⟩
set_option maxHeartbeats 800000 in
set_option maxRecDepth 100000 in
theorem cloneI_any (A : Option Addr) (n c : Nat) (l : List It) (w : World) (hl : KI.Rd w A n l) (hn : n ≤ 1000) :
    Calls Try.prog 56 #[.slice A n c] w fun e w' => ∃ v, e = .returned v ∧ KI.Own w' w.heap.size v l ∧ New w w' := by
  obtain rfl : l.length = n := hl.1
  cases A with
  | none =>
    have hm : l = [] := by
      cases l with
      | nil => rfl
      | cons x m => obtain ⟨b, o, h, _⟩ := hl.2 (by simp); cases h
    subst hm
    go_enter Try.func56, Try.ntmps56
    go_wp2_with fail
    go_ret
    exact ⟨_, rfl, Kind.Own.nil, New.rfl' w⟩
  | some ad =>
    go_enter Try.func56, Try.ntmps56
    go_wp2_with (first
      | (at_builtin; refine Kind.wpList_appendN rfl _ _ rfl rfl (Kind.Own.empty KI w) rfl (hl.alloc _) (by simp; omega) KI_b (by simp only [World.size_alloc]; omega) ?_; intro v' w2 hv hg; have hr : New w w2 := Kind.Own.grown ((New.rfl' w).alloc' _) (Kind.Own.empty KI w) hg; rw [List.nil_append] at hv; clear hg))
    go_ret
    exact ⟨_, rfl, hv, hr⟩

theorem findS_at (l : List Sn) (id : Int) (hm : risS 0 l = true) (k : Nat) (hk : k < l.length) (h : l[k].1 = id) (hq : ∀ q, (h : q < l.length) → q < k → Hid (l[q].1 ≠ id)) : findS l id = some l[k].2 := by
  have : l.find? (fun x => x.1 == id) = some l[k] := by
    rw [List.find?_eq_some_iff_getElem]
    exact ⟨by simpa using h, k, hk, rfl, fun j hj => by simpa using (hq j (by omega) hj).out⟩
  rw [findS, if_pos hm, this]; rfl
theorem findS_end (l : List Sn) (id : Int) (hq : ∀ q, (h : q < l.length) → Hid (l[q].1 ≠ id)) : findS l id = none := by
  refine findS_no l id ?_
  rw [← Bool.not_eq_true, hasS, List.any_eq_true]
  rintro ⟨x, hx, e⟩
  obtain ⟨q, hq2, rfl⟩ := List.getElem_of_mem hx
  exact (hq q hq2).out (by simpa using e)

set_option maxHeartbeats 800000 in
theorem rvof_any (A : Option Addr) (n c : Nat) (l : List Sn) (id : Int) (w : World) (hl : KS.Rd w A n l) (hn : n ≤ 140737488355328) (hP : PosS l) :
    Calls Try.prog 31 #[.slice A n c, .int .u32 id] w fun e w' => e = .returned (.tuple #[.int .u64 ((findS l id).getD 0), .bool (findS l id).isSome]) ∧ New w w' := by
  obtain rfl : l.length = n := hl.1
  have hA1 := rvmay_any A l.length c l
  rcases Bool.eq_false_or_eq_true (risS 0 l) with hm | hm
  · rw [hm] at hA1
    have HA := Lib.hid hA1
    have HM := Lib.hid hm
    clear hA1 hm
    have hl0 := hl
    go_enter Try.func31, Try.ntmps31
    have hwA := fun w' (h : New w w') n hn => rowAt_below h n hn
    have hwO := fun w' (h : New w w') n hn => rowOk_below h n hn
    have hwS := fun w' (h : New w w') n (hn : n < w.heap.size) => eq_true (Nat.lt_of_lt_of_le hn h.size)
    go_wp2_with fail
    go_loopw [6] (fun i wr => ∃ k : Nat, k ≤ l.length ∧ i = .int .i64 k ∧ New w wr ∧ ∀ q, (h : q < l.length) → q < k → Hid (l[q].1 ≠ id)) (fun i _ => l.length - (intOf i).toNat)
    case atStart => exact ⟨0, by omega, rfl, New.rfl' w, fun _ _ h => absurd h (by omega)⟩
    case round =>
      obtain ⟨k, hk, rfl, hr, hq⟩ := hrel
      by_cases hlt : k < l.length
      · skip
        obtain ⟨bhl, ohl, rfl, hbhl, hchl⟩ := hl.2 (by omega)
        have hrhl : ∀ w', New w w' → ∀ k (hk : k < l.length), w'.cell? ⟨bhl, ohl + k * 2, none⟩ = (snA l[k])[0]? := fun w' hw k hk => (hw.cell (p := ⟨bhl, _, none⟩) hbhl).trans (hchl k hk 0 (by decide))
        have hshl : ∀ w', New w w' → ∀ k (hk : k < l.length) j, j < 2 → w'.cell? ⟨bhl, ohl + k * 2 + j, none⟩ = (snA l[k])[j]? := fun w' hw k hk j hj => (hw.cell (p := ⟨bhl, _, none⟩) hbhl).trans (hchl k hk j hj)
        clear hchl
        have hd : decide ((k : Int) < (l.length : Int)) = true := by simpa using hlt
        rcases Bool.eq_false_or_eq_true (l[k].1 == id) with h1 | h1
        · have h1' := Lib.hid (show l[k].1 = id by simpa using h1)
          go_wp2_with (first
            | (go_at_call 29; refine (HA.out _ (hl0.new hr) hn hP).mono ?_; rintro e w1 ⟨rfl, hb1⟩; have hr1 := hr.call hb1))
          go_ret2
          exact ⟨by rw [findS_at l id HM.out k hlt h1'.out hq]; rfl, hr1⟩
        · have h1' := Lib.hid (show l[k].1 ≠ id by simpa using h1)
          go_wp2_with (first
            | (go_at_call 29; refine (HA.out _ (hl0.new hr) hn hP).mono ?_; rintro e w1 ⟨rfl, hb1⟩; have hr1 := hr.call hb1))
          go_roundw
          case rel => exact ⟨k + 1, by omega, by go_num, hr1, fun q h h2 => by
            rcases Nat.lt_succ_iff_lt_or_eq.1 h2 with h3 | rfl
            · exact hq q h h3
            · exact h1'⟩
          case measure => simp [intOf]; omega
      · have hd : decide ((k : Int) < (l.length : Int)) = false := by simpa using hlt
        go_wp2_with (first
            | (go_at_call 29; refine (HA.out _ (hl0.new hr) hn hP).mono ?_; rintro e w1 ⟨rfl, hb1⟩; have hr1 := hr.call hb1))
        go_ret2
        exact ⟨by rw [findS_end l id fun q h => hq q h (by omega)]; rfl, hr1⟩
  · rw [findS_not l id hm]
    rw [hm] at hA1
    have HA := Lib.hid hA1
    clear hA1 hm
    go_enter Try.func31, Try.ntmps31
    have hwA := fun w' (h : New w w') n hn => rowAt_below h n hn
    have hwO := fun w' (h : New w w') n hn => rowOk_below h n hn
    have hwS := fun w' (h : New w w') n (hn : n < w.heap.size) => eq_true (Nat.lt_of_lt_of_le hn h.size)
    go_wp2_with fail
    go_loopw [6] (fun i wr => i = .int .i64 0 ∧ New w wr) (fun _ _ => 0)
    case atStart => exact ⟨rfl, New.rfl' w⟩
    case round =>
      obtain ⟨rfl, hr⟩ := hrel
      go_wp2_with (first
            | (go_at_call 29; refine (HA.out _ (hl.new hr) hn hP).mono ?_; rintro e w1 ⟨rfl, hb1⟩; have hr1 := hr.call hb1))
      go_ret2
      exact ⟨rfl, hr1⟩
end Go.Proofs.Ytkgebhmlogddcaa
