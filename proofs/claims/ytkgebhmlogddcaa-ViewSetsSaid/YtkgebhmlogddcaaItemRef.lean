/- Contracts of the reference of the layer item. -/
import Derived.Test.YtkgebhmlogddcaaItem5
import Derived.Test.YtkgebhmlogddcaaEqIt
namespace Go.Proofs.Ytkgebhmlogddcaa
open Go.RowKit
set_option linter.unusedSimpArgs false
attribute [local go_sem] rowAt_alloc_at rowAt_alloc_past rowOk_alloc_at rowOk_alloc_past rowAt_drew rowOk_drew setRow_alloc_at setRow_alloc_past rowAt_setRow rowAt_setRow_far rowOk_setRow cell_rowOk frozen_rowOk setCell_rowOk setRow_setRow con_fold con_get con_size con_set set_all none8_cells equalIn_con storeCells_con
attribute [local go_sem] it_size it_0 it_1 it_2 it_3 it_4 it_5 it_6 it_7 it_8 it_9 it_10 it_set0 it_set1 it_set2 it_fold it_zero it_eta it_fill run_storeCells_it
attribute [local go_sem high] equalIn_it

theorem ris_bad (l : List It) (k : Nat) (hk : k < l.length) (h : ¬ (lastI 0 (l.take k) < l[k].1) ∨ l[k].2.1 = 0) : risI 0 l = false := by
  rw [← Bool.not_eq_true]
  intro h2
  have h3 := risI_take 0 l (k + 1) h2
  rw [risI_step 0 l k hk] at h3
  simp only [Bool.and_eq_true, decide_eq_true_eq, bne_iff_ne] at h3
  rcases h with h | h
  · exact h h3.1.2
  · exact h3.2 h
theorem ris_good (l : List It) (k : Nat) (hk : k < l.length) (h0 : risI 0 (l.take k) = true) (h : lastI 0 (l.take k) < l[k].1) (h2 : ¬ l[k].2.1 = 0) : risI 0 (l.take (k + 1)) = true := by
  rw [risI_step 0 l k hk, h0]; simp [h, h2]

def PosI (l : List It) : Prop := ∀ x ∈ l, 0 ≤ x.1
theorem PosI.at {l : List It} (h : PosI l) (k : Nat) (hk : k < l.length) : 0 ≤ l[k].1 := h _ (List.getElem_mem _)

set_option maxHeartbeats 800000 in
theorem refmay_any (A : Option Addr) (n c : Nat) (l : List It) (w : World) (hl : KI.Rd w A n l) (hn : n ≤ 140737488355328) (hP : PosI l) :
    Calls Try.prog 25 #[.slice A n c] w fun e w' => e = .returned (.bool (mayI l)) ∧ New w w' := by
  obtain rfl : l.length = n := hl.1
  by_cases h40 : l.length ≤ 40
  · have hm : mayI l = risI 0 l := by simp [mayI, h40]
    rw [hm]
    have HM := Lib.hid hm
    clear hm
    have h40' : (l.length : Int) ≤ 40 := by omega
    go_enter Try.func25, Try.ntmps25
    go_wp2_with fail
    have hwA := fun w' (h : New w w') n hn => rowAt_below h n hn
    have hwO := fun w' (h : New w w') n hn => rowOk_below h n hn
    have hwS := fun w' (h : New w w') n (hn : n < w.heap.size) => eq_true (Nat.lt_of_lt_of_le hn h.size)
    go_loopw [3] (fun i wr => ∃ k : Nat, k ≤ l.length ∧ i = .int .i64 k ∧ New w wr ∧ Hid (risI 0 (l.take k) = true)) (fun i _ => l.length - (intOf i).toNat)
    case atStart => exact ⟨0, by omega, rfl, New.rfl' w, rfl⟩
    case round =>
      obtain ⟨k, hk, rfl, hr, hq⟩ := hrel
      by_cases hlt : k < l.length
      · have hbad := Lib.hid (ris_bad l k hlt)
        have hgood := Lib.hid (ris_good l k hlt hq.out)
        have hp := hP.at k hlt
        obtain ⟨bhl, ohl, rfl, hbhl, hchl⟩ := hl.2 (by omega)
        have hrhl : ∀ w', New w w' → ∀ k (hk : k < l.length), w'.cell? ⟨bhl, ohl + k * 11, none⟩ = (itA l[k])[0]? := fun w' hw k hk => (hw.cell (p := ⟨bhl, _, none⟩) hbhl).trans (hchl k hk 0 (by decide))
        have hshl : ∀ w', New w w' → ∀ k (hk : k < l.length) j, j < 11 → w'.cell? ⟨bhl, ohl + k * 11 + j, none⟩ = (itA l[k])[j]? := fun w' hw k hk j hj => (hw.cell (p := ⟨bhl, _, none⟩) hbhl).trans (hchl k hk j hj)
        clear hchl
        rcases Bool.eq_false_or_eq_true (l[k].1 == 0) with h1 | h1
        · have h1' := Lib.hid (show l[k].1 = 0 by simpa using h1)
          go_wp2_with fail
          go_quiet (fail)
          go_wp2_with fail
          go_ret
          refine ⟨?_, below_drewN hr _⟩
          have hla : 0 ≤ lastI 0 (l.take k) := by
            cases k with
            | zero => simp [lastI]
            | succ j => rw [lastI_step 0 l j (by omega)]; exact hP.at j (by omega)
          rw [hbad.out (Or.inl (by rw [h1'.out]; omega))]; rfl
        have h1' := Lib.hid (show l[k].1 ≠ 0 by simpa using h1)
        rcases Bool.eq_false_or_eq_true (l[k].2.1 == 0) with h2 | h2
        · have h2' := Lib.hid (show l[k].2.1 = 0 by simpa using h2)
          go_wp2_with fail
          go_quiet (fail)
          go_wp2_with fail
          go_ret
          exact ⟨by rw [hbad.out (Or.inr h2'.out)]; rfl, below_drewN hr _⟩
        have h2' := Lib.hid (show l[k].2.1 ≠ 0 by simpa using h2)
        cases k with
        | zero =>
          have hz0 := fun w' hw => hrhl w' hw 0 hlt
          have hz1 := fun w' hw => hshl w' hw 0 hlt 1 (by decide)
          simp only [Nat.zero_mul, Nat.add_zero] at hz0 hz1
          go_wp2_with fail
          go_quiet (fail)
          go_wp2_with fail
          go_roundw
          case rel => exact ⟨0 + 1, by omega, by go_num, below_drewN hr _, hgood.out (by have := h1'.out; simp [lastI]; omega) h2'.out⟩
          case measure => simp [intOf]; omega
        | succ j =>
          have hla := Lib.hid (lastI_step 0 l j (by omega))
          have iw : IntKind.i64.wrap ((j : Int) + 1 - 1) = (j : Int) := by rw [IntKind.wrap_i64]; omega
          have i2 : (0 : Int) < (j : Int) + 1 := by omega
          have i3 : j < l.length := by omega
          have i4 : (j : Int) < (l.length : Int) := by omega
          by_cases h3 : l[j + 1].1 ≤ l[j].1
          · go_wp2_with fail
            go_quiet (fail)
            go_wp2_with fail
            go_ret
            exact ⟨by rw [hbad.out (Or.inl (by rw [hla.out]; omega))]; rfl, below_drewN hr _⟩
          · go_wp2_with fail
            go_quiet (fail)
            go_wp2_with fail
            go_roundw
            case rel => exact ⟨j + 1 + 1, by omega, by go_num, below_drewN hr _, hgood.out (by rw [hla.out]; omega) h2'.out⟩
            case measure => simp [intOf]; omega
      · go_wp2_with fail
        go_ret
        exact ⟨by have h := hq.out; rw [List.take_of_length_le (by omega)] at h; rw [h]; rfl, hr⟩
  · have hm : mayI l = false := by simp [mayI, h40]
    rw [hm]
    clear hm
    have h40' : (40 : Int) < (l.length : Int) := by omega
    go_enter Try.func25, Try.ntmps25
    go_wp2_with fail
    go_ret
    exact ⟨rfl, New.rfl' w⟩

/-- where an Id stands first, or -1 -/
def atI (l : List It) (id : Int) : Int := if hasI l id then (l.findIdx (fun x => x.1 == id) : Nat) else -1
theorem atI_at (l : List It) (id : Int) (k : Nat) (hk : k < l.length) (h : l[k].1 = id) (hq : ∀ q, (h : q < l.length) → q < k → Hid (l[q].1 ≠ id)) : atI l id = k := by
  rw [atI, if_pos ((hasI_iff l id).2 ⟨k, hk, h⟩), (List.findIdx_eq hk).2 ⟨by simpa using h, fun j hj => by simpa using (hq j (by omega) hj).out⟩]
theorem atI_no (l : List It) (id : Int) (hq : ∀ q, (h : q < l.length) → Hid (l[q].1 ≠ id)) : atI l id = -1 := by
  rw [atI, if_neg]
  rw [hasI_iff]
  rintro ⟨q, h, he⟩
  exact (hq q h).out he
theorem atI_pos (l : List It) (id : Int) (hm : risI 0 l = true) (h : hasI l id = true) : atI l id = (posI l id : Nat) := by
  obtain ⟨hp, hpe, hf⟩ := pos_has l id hm h
  exact atI_at l id _ hp hpe fun p hp2 hlt hpi => by
    have := risI_lt 0 l hm p (posI l id) hp hlt
    omega

set_option maxHeartbeats 800000 in
theorem refplace_any (A : Option Addr) (n c : Nat) (l : List It) (id : Int) (w : World) (hl : KI.Rd w A n l) (hn : n ≤ 140737488355328) :
    Calls Try.prog 49 #[.slice A n c, .int .u32 id] w fun e w' => e = .returned (.int .i64 (atI l id)) ∧ New w w' := by
  obtain rfl : l.length = n := hl.1
  go_enter Try.func49, Try.ntmps49
  go_wp2_with fail
  have hwA := fun w' (h : New w w') n hn => rowAt_below h n hn
  have hwO := fun w' (h : New w w') n hn => rowOk_below h n hn
  have hwS := fun w' (h : New w w') n (hn : n < w.heap.size) => eq_true (Nat.lt_of_lt_of_le hn h.size)
  go_loopw [5] (fun i wr => ∃ k : Nat, k ≤ l.length ∧ i = .int .i64 k ∧ New w wr ∧ ∀ q, (h : q < l.length) → q < k → Hid (l[q].1 ≠ id)) (fun i _ => l.length - (intOf i).toNat)
  case atStart => exact ⟨0, by omega, rfl, New.rfl' w, fun _ _ h => absurd h (by omega)⟩
  case round =>
    obtain ⟨k, hk, rfl, hr, hq⟩ := hrel
    by_cases hlt : k < l.length
    · skip
      obtain ⟨bhl, ohl, rfl, hbhl, hchl⟩ := hl.2 (by omega)
      have hrhl : ∀ w', New w w' → ∀ k (hk : k < l.length), w'.cell? ⟨bhl, ohl + k * 11, none⟩ = (itA l[k])[0]? := fun w' hw k hk => (hw.cell (p := ⟨bhl, _, none⟩) hbhl).trans (hchl k hk 0 (by decide))
      have hshl : ∀ w', New w w' → ∀ k (hk : k < l.length) j, j < 11 → w'.cell? ⟨bhl, ohl + k * 11 + j, none⟩ = (itA l[k])[j]? := fun w' hw k hk j hj => (hw.cell (p := ⟨bhl, _, none⟩) hbhl).trans (hchl k hk j hj)
      clear hchl
      rcases Bool.eq_false_or_eq_true (l[k].1 == id) with h1 | h1
      · have h1' := Lib.hid (show l[k].1 = id by simpa using h1)
        go_wp2_with fail
        go_ret
        exact ⟨by rw [atI_at l id k hlt h1'.out hq]; rfl, hr⟩
      · have h1' := Lib.hid (show l[k].1 ≠ id by simpa using h1)
        go_wp2_with fail
        go_roundw
        case rel => exact ⟨k + 1, by omega, by go_num, hr, fun q h h2 => by
          rcases Nat.lt_succ_iff_lt_or_eq.1 h2 with h3 | rfl
          · exact hq q h h3
          · exact h1'⟩
        case measure => simp [intOf]; omega
    · go_wp2_with fail
      go_ret
      exact ⟨by rw [atI_no l id fun q h => hq q h (by omega)]; rfl, hr⟩


theorem atI_lt (l : List It) (id : Int) : decide (atI l id < 0) = !hasI l id := by
  unfold atI
  cases hasI l id <;> simp

set_option maxHeartbeats 800000 in
theorem reffind_any (A : Option Addr) (n c : Nat) (l : List It) (id : Int) (w : World) (hl : KI.Rd w A n l) (hn : n ≤ 140737488355328) (hP : PosI l) :
    Calls Try.prog 24 #[.slice A n c, .int .u32 id] w fun e w' => e = .returned (.tuple #[.agg (itA ((findI l id).getD itZ)), .bool (findI l id).isSome]) ∧ New w w' := by
  obtain rfl : l.length = n := hl.1
  rcases Bool.eq_false_or_eq_true (mayI l) with hm | hm
  · rcases Bool.eq_false_or_eq_true (hasI l id) with hh | hh
    · obtain ⟨hp, hpe, hf⟩ := pos_has l id (risI_of l hm) hh
      clear hpe
      have hx : findI l id = some l[posI l id] := by rw [findI, if_pos hm, hf]
      rw [hx]
      have hA1 := refmay_any A l.length c l
      rw [hm] at hA1
      have HA := Lib.hid hA1
      have hB1 := refplace_any A l.length c l id
      rw [atI_pos l id (risI_of l hm) hh] at hB1
      have HB := Lib.hid hB1
      clear hx hf hA1 hB1 hm hh
      generalize hpp : posI l id = p at *
      have Hpp := Lib.hid hpp
      clear hpp
      go_enter Try.func24, Try.ntmps24
      go_wp2_with fail
      have hnW : New w (w.alloc (Obj.cells (itA itZ) 28)) := (New.rfl' w).alloc' _
      generalize hW : (w.alloc (Obj.cells (itA itZ) 28)) = W at *
      have hWz0 : w.heap.size < W.heap.size := by rw [← hW]; simp only [World.size_alloc]; omega
      have hWa0 : rowAt W (w.heap.size) = itA itZ := by rw [← hW]; simp [go_sem]
      have hWo0 : rowOk W (w.heap.size) = true := by rw [← hW]; simp [go_sem]
      clear hW
      have hWA := fun w' (h : New W w') n hn => rowAt_below h n hn
      have hWO := fun w' (h : New W w') n hn => rowOk_below h n hn
      have hWS := fun w' (h : New W w') n (hn : n < W.heap.size) => eq_true (Nat.lt_of_lt_of_le hn h.size)
      have hl2 := hl.new hnW
      have hl3 := hl2
      have hr := New.rfl' W
      obtain ⟨bhl2, ohl2, rfl, hbhl2, hchl2⟩ := hl2.2 (by omega)
      have hrhl2 : ∀ w', New W w' → ∀ k (hk : k < l.length), w'.cell? ⟨bhl2, ohl2 + k * 11, none⟩ = (itA l[k])[0]? := fun w' hw k hk => (hw.cell (p := ⟨bhl2, _, none⟩) hbhl2).trans (hchl2 k hk 0 (by decide))
      have hshl2 : ∀ w', New W w' → ∀ k (hk : k < l.length) j, j < 11 → w'.cell? ⟨bhl2, ohl2 + k * 11 + j, none⟩ = (itA l[k])[j]? := fun w' hw k hk j hj => (hw.cell (p := ⟨bhl2, _, none⟩) hbhl2).trans (hchl2 k hk j hj)
      clear hchl2
      go_wp2_with (first
        | (go_at_call 49; refine (HB.out _ hl3 hn).mono ?_; rintro e w1 ⟨rfl, hb1⟩)
        | (go_at_call 25; refine (HA.out _ (hl3.new hb1) hn hP).mono ?_; rintro e w2 ⟨rfl, hb⟩; have hb2 := New.call hb1 hb; clear hb))
      exact bodyPost_ret (results_it2 rfl _ _ w.heap.size _ rfl (by go_simp) (by go_simp)) rfl ⟨rfl, (hnW.call hb2).row _ _ (Nat.le_refl _)⟩
    · have hx : findI l id = none := by
        have := findI_has l id hm
        rw [hh] at this
        simpa using this
      rw [hx]
      have hA1 := refmay_any A l.length c l
      rw [hm] at hA1
      have HA := Lib.hid hA1
      have hB1 := refplace_any A l.length c l id
      rw [show atI l id = -1 by rw [atI, hh]; rfl] at hB1
      have HB := Lib.hid hB1
      clear hx hA1 hB1 hm hh
      go_enter Try.func24, Try.ntmps24
      go_wp2_with fail
      have hnW : New w (w.alloc (Obj.cells (itA itZ) 28)) := (New.rfl' w).alloc' _
      generalize hW : (w.alloc (Obj.cells (itA itZ) 28)) = W at *
      have hWz0 : w.heap.size < W.heap.size := by rw [← hW]; simp only [World.size_alloc]; omega
      have hWa0 : rowAt W (w.heap.size) = itA itZ := by rw [← hW]; simp [go_sem]
      have hWo0 : rowOk W (w.heap.size) = true := by rw [← hW]; simp [go_sem]
      clear hW
      have hWA := fun w' (h : New W w') n hn => rowAt_below h n hn
      have hWO := fun w' (h : New W w') n hn => rowOk_below h n hn
      have hWS := fun w' (h : New W w') n (hn : n < W.heap.size) => eq_true (Nat.lt_of_lt_of_le hn h.size)
      have hl3 := hl.new hnW
      go_wp2_with (first
        | (go_at_call 49; refine (HB.out _ hl3 hn).mono ?_; rintro e w1 ⟨rfl, hb1⟩)
        | (go_at_call 25; refine (HA.out _ (hl3.new hb1) hn hP).mono ?_; rintro e w2 ⟨rfl, hb⟩; have hb2 := New.call hb1 hb; clear hb))
      exact bodyPost_ret (results_it2 rfl _ _ w.heap.size _ rfl (by go_simp) (by go_simp)) rfl ⟨rfl, (hnW.call hb2).row _ _ (Nat.le_refl _)⟩
  · have hx : findI l id = none := by rw [findI, hm]; rfl
    rw [hx]
    have hA1 := refmay_any A l.length c l
    rw [hm] at hA1
    have HA := Lib.hid hA1
    have hB1 := refplace_any A l.length c l id
    generalize atI l id = q at *
    have HB := Lib.hid hB1
    clear hx hA1 hB1 hm
    go_enter Try.func24, Try.ntmps24
    go_wp2_with fail
    have hnW : New w (w.alloc (Obj.cells (itA itZ) 28)) := (New.rfl' w).alloc' _
    generalize hW : (w.alloc (Obj.cells (itA itZ) 28)) = W at *
    have hWz0 : w.heap.size < W.heap.size := by rw [← hW]; simp only [World.size_alloc]; omega
    have hWa0 : rowAt W (w.heap.size) = itA itZ := by rw [← hW]; simp [go_sem]
    have hWo0 : rowOk W (w.heap.size) = true := by rw [← hW]; simp [go_sem]
    clear hW
    have hWA := fun w' (h : New W w') n hn => rowAt_below h n hn
    have hWO := fun w' (h : New W w') n hn => rowOk_below h n hn
    have hWS := fun w' (h : New W w') n (hn : n < W.heap.size) => eq_true (Nat.lt_of_lt_of_le hn h.size)
    have hl3 := hl.new hnW
    go_wp2_with (first
      | (go_at_call 49; refine (HB.out _ hl3 hn).mono ?_; rintro e w1 ⟨rfl, hb1⟩)
      | (go_at_call 25; refine (HA.out _ (hl3.new hb1) hn hP).mono ?_; rintro e w2 ⟨rfl, hb⟩; have hb2 := New.call hb1 hb; clear hb))
    exact bodyPost_ret (results_it2 rfl _ _ w.heap.size _ rfl (by go_simp) (by go_simp)) rfl ⟨rfl, (hnW.call hb2).row _ _ (Nat.le_refl _)⟩
end Go.Proofs.Ytkgebhmlogddcaa
