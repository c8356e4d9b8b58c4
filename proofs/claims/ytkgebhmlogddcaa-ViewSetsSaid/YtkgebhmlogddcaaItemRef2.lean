/- Contracts of the reference of the layer item: In, Without, Same. -/
import Derived.Test.YtkgebhmlogddcaaItemRef
namespace Go.Proofs.Ytkgebhmlogddcaa
open Go.RowKit
set_option linter.unusedSimpArgs false
attribute [local go_sem] rowAt_alloc_at rowAt_alloc_past rowOk_alloc_at rowOk_alloc_past rowAt_drew rowOk_drew setRow_alloc_at setRow_alloc_past rowAt_setRow rowAt_setRow_far rowOk_setRow cell_rowOk frozen_rowOk setCell_rowOk setRow_setRow con_fold con_get con_size con_set set_all none8_cells equalIn_con storeCells_con
attribute [local go_sem] it_size it_0 it_1 it_2 it_3 it_4 it_5 it_6 it_7 it_8 it_9 it_10 it_set0 it_set1 it_set2 it_fold it_zero it_eta it_fill run_storeCells_it
attribute [local go_sem high] equalIn_it

set_option maxHeartbeats 800000 in
theorem refin_i (A : Option Addr) (n c : Nat) (l : List It) (fo : Int) (w : World) (hl : KI.Rd w A n l) (hn : n ≤ 140737488355328) (hP : PosI l) :
    Calls Try.prog 26 #[.slice A n c, .int .u32 fo] w fun e w' => ∃ v, e = .returned v ∧ KI.Own w' w.heap.size v (inI l fo) ∧ New w w' := by
  obtain rfl : l.length = n := hl.1
  rcases Bool.eq_false_or_eq_true (mayI l) with hm | hm
  · have h40 := mayI_len l hm
    have hth : inI l fo = l.filter (fun x => x.2.1 == fo) := by simp [inI, thoseI, hm]
    rw [hth]
    have hA1 := refmay_any A l.length c l
    rw [hm] at hA1
    have HA := Lib.hid hA1
    clear hA1 hth hm
    have hl0 := hl
    go_enter Try.func26, Try.ntmps26
    have hwA := fun w' (h : New w w') n hn => rowAt_below h n hn
    have hwO := fun w' (h : New w w') n hn => rowOk_below h n hn
    have hwS := fun w' (h : New w w') n (hn : n < w.heap.size) => eq_true (Nat.lt_of_lt_of_le hn h.size)
    go_wp2_with fail
    go_loopw [5, 6] (fun v i wr => ∃ k : Nat, k ≤ l.length ∧ i = .int .i64 k ∧ New w wr ∧ KI.Own wr w.heap.size v ((l.take k).filter fun x => x.2.1 == fo)) (fun _ i _ => l.length - (intOf i).toNat)
    case atStart => exact ⟨0, by omega, rfl, New.rfl' w, Kind.Own.nil⟩
    case round =>
      obtain ⟨k, hk, rfl, hr, hv⟩ := hrel
      by_cases hlt : k < l.length
      · have hst := Lib.hid (filter_step (fun x => x.2.1 == fo) l k hlt)
        have hlen : ((l.take k).filter fun x => x.2.1 == fo).length ≤ k := by have := List.length_filter_le (fun x : It => x.2.1 == fo) (l.take k); rw [List.length_take] at this; omega
        obtain ⟨bhl, ohl, rfl, hbhl, hchl⟩ := hl.2 (by omega)
        have hrhl : ∀ w', New w w' → ∀ k (hk : k < l.length), w'.cell? ⟨bhl, ohl + k * 11, none⟩ = (itA l[k])[0]? := fun w' hw k hk => (hw.cell (p := ⟨bhl, _, none⟩) hbhl).trans (hchl k hk 0 (by decide))
        have hshl : ∀ w', New w w' → ∀ k (hk : k < l.length) j, j < 11 → w'.cell? ⟨bhl, ohl + k * 11 + j, none⟩ = (itA l[k])[j]? := fun w' hw k hk j hj => (hw.cell (p := ⟨bhl, _, none⟩) hbhl).trans (hchl k hk j hj)
        clear hchl
        generalize (l.take k).filter (fun x => x.2.1 == fo) = L at *
        have hd : decide ((k : Int) < (l.length : Int)) = true := by simpa using hlt
        rcases Bool.eq_false_or_eq_true (l[k].2.1 == fo) with h1 | h1
        · have hst2 := Lib.hid (show List.filter (fun x => x.2.1 == fo) (l.take (k + 1)) = L ++ [l[k]] by rw [hst.out, h1]; rfl)
          go_wp2_with (first
            | (go_at_call 25; refine (HA.out _ (hl0.new hr) hn hP).mono ?_; rintro e w1 ⟨rfl, hb1⟩; have hr1 := hr.call hb1; have hv1 := hv.new hb1)
            | (at_builtin; refine Kind.wpList_append1 rfl _ _ rfl rfl (hv1.alloc _) l[k] w1.heap.size rfl (by go_simp) (by go_simp <;> rfl) (by omega) KI_b (by have := hr1.size; simp only [World.size_alloc]; omega) ?_; intro v' w2 hv2 _ hg))
          go_roundw
          case rel => exact ⟨k + 1, by omega, by go_num, Kind.Own.grown (hr1.alloc' _) (hv1.alloc _) hg, by rw [hst2.out]; exact hv2⟩
          case measure => simp [intOf]; omega
        · have hst2 := Lib.hid (show List.filter (fun x => x.2.1 == fo) (l.take (k + 1)) = L by rw [hst.out, h1]; simp)
          go_wp2_with (first
            | (go_at_call 25; refine (HA.out _ (hl0.new hr) hn hP).mono ?_; rintro e w1 ⟨rfl, hb1⟩; have hr1 := hr.call hb1; have hv1 := hv.new hb1))
          go_roundw
          case rel => exact ⟨k + 1, by omega, by go_num, hr1, by rw [hst2.out]; exact hv1⟩
          case measure => simp [intOf]; omega
      · have hd : decide ((k : Int) < (l.length : Int)) = false := by simpa using hlt
        go_wp2_with (first
            | (go_at_call 25; refine (HA.out _ (hl0.new hr) hn hP).mono ?_; rintro e w1 ⟨rfl, hb1⟩; have hr1 := hr.call hb1; have hv1 := hv.new hb1))
        go_ret
        exact ⟨_, rfl, by rw [List.take_of_length_le (by omega)] at hv1; exact hv1, hr1⟩
  · have hth : inI l fo = [] := by simp [inI, thoseI, hm]
    rw [hth]
    have hA1 := refmay_any A l.length c l
    rw [hm] at hA1
    have HA := Lib.hid hA1
    clear hA1 hth hm
    go_enter Try.func26, Try.ntmps26
    have hwA := fun w' (h : New w w') n hn => rowAt_below h n hn
    have hwO := fun w' (h : New w w') n hn => rowOk_below h n hn
    have hwS := fun w' (h : New w w') n (hn : n < w.heap.size) => eq_true (Nat.lt_of_lt_of_le hn h.size)
    go_wp2_with fail
    go_loopw [5, 6] (fun v i wr => i = .int .i64 0 ∧ v = .slice none 0 0 ∧ New w wr) (fun _ _ _ => 0)
    case atStart => exact ⟨rfl, rfl, New.rfl' w⟩
    case round =>
      obtain ⟨rfl, rfl, hr⟩ := hrel
      go_wp2_with (first
            | (go_at_call 25; refine (HA.out _ (hl.new hr) hn hP).mono ?_; rintro e w1 ⟨rfl, hb1⟩; have hr1 := hr.call hb1))
      go_ret
      exact ⟨_, rfl, Kind.Own.nil, hr1⟩

theorem inU_step (x : Int) (l : List Int) (k : Nat) (hk : k < l.length) : inU x (l.take (k + 1)) = (inU x (l.take k) || x == l[k]) := by
  unfold inU
  rw [List.take_succ_eq_append_getElem hk, Bool.eq_iff_iff]
  simp only [Bool.or_eq_true, List.contains_iff_mem, List.mem_append, List.mem_singleton, beq_iff_eq]

set_option maxHeartbeats 1600000 in
theorem refwithout_i (A : Option Addr) (n c : Nat) (l : List It) (B : Option Addr) (m d : Nat) (fs : List Int) (w : World) (hl : KI.Rd w A n l) (hn : n ≤ 140737488355328) (hf : KU.Rd w B m fs) (hm2 : m ≤ 140737488355328) (hP : PosI l) :
    Calls Try.prog 27 #[.slice A n c, .slice B m d] w fun e w' => ∃ v, e = .returned v ∧ KI.Own w' w.heap.size v (withoutI l fs) ∧ New w w' := by
  obtain rfl : l.length = n := hl.1
  obtain rfl : fs.length = m := hf.1
  rcases Bool.eq_false_or_eq_true (mayI l) with hm | hm
  · have h40 := mayI_len l hm
    have hth : withoutI l fs = l.filter (fun x => !inU x.2.1 fs) := by simp [withoutI, thoseI, hm]
    rw [hth]
    have hA1 := refmay_any A l.length c l
    rw [hm] at hA1
    have HA := Lib.hid hA1
    clear hA1 hth hm
    have hl0 := hl
    have hf0 := hf
    go_enter Try.func27, Try.ntmps27
    have hwA := fun w' (h : New w w') n hn => rowAt_below h n hn
    have hwO := fun w' (h : New w w') n hn => rowOk_below h n hn
    have hwS := fun w' (h : New w w') n (hn : n < w.heap.size) => eq_true (Nat.lt_of_lt_of_le hn h.size)
    go_wp2_with fail
    go_loopw [5, 6] (fun v i wr => ∃ k : Nat, k ≤ l.length ∧ i = .int .i64 k ∧ New w wr ∧ KI.Own wr w.heap.size v ((l.take k).filter fun x => !inU x.2.1 fs)) (fun _ i _ => l.length - (intOf i).toNat)
    case atStart => exact ⟨0, by omega, rfl, New.rfl' w, Kind.Own.nil⟩
    case round =>
      obtain ⟨k, hk, rfl, hr, hv⟩ := hrel
      by_cases hlt : k < l.length
      · have hst := Lib.hid (filter_step (fun x => !inU x.2.1 fs) l k hlt)
        have hlen : ((l.take k).filter fun x => !inU x.2.1 fs).length ≤ k := by have := List.length_filter_le (fun x : It => !inU x.2.1 fs) (l.take k); rw [List.length_take] at this; omega
        obtain ⟨bhl, ohl, rfl, hbhl, hchl⟩ := hl.2 (by omega)
        have hrhl : ∀ w', New w w' → ∀ k (hk : k < l.length), w'.cell? ⟨bhl, ohl + k * 11, none⟩ = (itA l[k])[0]? := fun w' hw k hk => (hw.cell (p := ⟨bhl, _, none⟩) hbhl).trans (hchl k hk 0 (by decide))
        have hshl : ∀ w', New w w' → ∀ k (hk : k < l.length) j, j < 11 → w'.cell? ⟨bhl, ohl + k * 11 + j, none⟩ = (itA l[k])[j]? := fun w' hw k hk j hj => (hw.cell (p := ⟨bhl, _, none⟩) hbhl).trans (hchl k hk j hj)
        clear hchl
        generalize (l.take k).filter (fun x => !inU x.2.1 fs) = L at *
        have hd : decide ((k : Int) < (l.length : Int)) = true := by simpa using hlt
        go_wp2_with (first
            | (go_at_call 25; refine (HA.out _ (hl0.new hr) hn hP).mono ?_; rintro e w1 ⟨rfl, hb1⟩; have hr1 := hr.call hb1; have hv1 := hv.new hb1))
        go_loopw [7, 8] (fun b j wi => ∃ q : Nat, q ≤ fs.length ∧ j = .int .i64 q ∧ b = .bool (inU l[k].2.1 (fs.take q)) ∧ New w wi ∧ New w1 wi) (fun _ j _ => fs.length - (intOf j).toNat)
        case atStart => exact ⟨0, by omega, rfl, rfl, hr1, New.rfl' _⟩
        case round =>
          obtain ⟨q, hq, rfl, rfl, hri, hri2⟩ := hrel
          by_cases hltq : q < fs.length
          · have hstq := Lib.hid (inU_step l[k].2.1 fs q hltq)
            obtain ⟨bhf, ohf, rfl, hbhf, hchf⟩ := hf.2 (by omega)
            have hrhf : ∀ w', New w w' → ∀ k (hk : k < fs.length), w'.cell? ⟨bhf, ohf + k, none⟩ = some (.int .u32 fs[k]) := fun w' hw k hk => by have h1 := (hw.cell (p := ⟨bhf, _, none⟩) hbhf).trans (hchf k hk 0 (by decide)); simpa [KU_enc, KU_sz] using h1
            clear hchf
            generalize inU l[k].2.1 (fs.take q) = b at *
            cases b
            · go_wp2_with fail
              go_quiet (fail)
              go_wp2_with fail
              go_roundw
              case rel => exact ⟨q + 1, by omega, by go_num, by rw [hstq.out]; simp, below_drewN hri _, below_drewN hri2 _⟩
              case measure => simp [intOf]; omega
            · go_wp2_with fail
              go_quiet (fail)
              go_wp2_with fail
              go_roundw
              case rel => exact ⟨q + 1, by omega, by go_num, by rw [hstq.out]; simp, below_drewN hri _, below_drewN hri2 _⟩
              case measure => simp [intOf]; omega
          · have hv2 := hv1.new hri2
            have hfull : fs.take q = fs := List.take_of_length_le (by omega)
            rw [hfull]
            rcases Bool.eq_false_or_eq_true (inU l[k].2.1 fs) with h1 | h1
            · have hst2 := Lib.hid (show List.filter (fun x => !inU x.2.1 fs) (l.take (k + 1)) = L by rw [hst.out, h1]; simp)
              rw [h1]
              go_wp2_with fail
              go_roundw
              case rel => exact ⟨k + 1, by omega, by go_num, hri, by rw [hst2.out]; exact hv2⟩
              case measure => simp [intOf]; omega
            · have hst2 := Lib.hid (show List.filter (fun x => !inU x.2.1 fs) (l.take (k + 1)) = L ++ [l[k]] by rw [hst.out, h1]; rfl)
              rw [h1]
              go_wp2_with (first
                | (at_builtin; refine Kind.wpList_append1 rfl _ _ rfl rfl (hv2.alloc _) l[k] _ rfl (by go_simp) (by go_simp <;> rfl) (by omega) KI_b (by have := hri.size; simp only [World.size_alloc]; omega) ?_; intro v' w2 hv3 _ hg))
              go_roundw
              case rel => exact ⟨k + 1, by omega, by go_num, Kind.Own.grown (hri.alloc' _) (hv2.alloc _) hg, by rw [hst2.out]; exact hv3⟩
              case measure => simp [intOf]; omega
      · have hd : decide ((k : Int) < (l.length : Int)) = false := by simpa using hlt
        go_wp2_with (first
            | (go_at_call 25; refine (HA.out _ (hl0.new hr) hn hP).mono ?_; rintro e w1 ⟨rfl, hb1⟩; have hr1 := hr.call hb1; have hv1 := hv.new hb1))
        go_ret
        exact ⟨_, rfl, by rw [List.take_of_length_le (by omega)] at hv1; exact hv1, hr1⟩
  · have hth : withoutI l fs = [] := by simp [withoutI, thoseI, hm]
    rw [hth]
    have hA1 := refmay_any A l.length c l
    rw [hm] at hA1
    have HA := Lib.hid hA1
    clear hA1 hth hm
    go_enter Try.func27, Try.ntmps27
    have hwA := fun w' (h : New w w') n hn => rowAt_below h n hn
    have hwO := fun w' (h : New w w') n hn => rowOk_below h n hn
    have hwS := fun w' (h : New w w') n (hn : n < w.heap.size) => eq_true (Nat.lt_of_lt_of_le hn h.size)
    go_wp2_with fail
    go_loopw [5, 6] (fun v i wr => i = .int .i64 0 ∧ v = .slice none 0 0 ∧ New w wr) (fun _ _ _ => 0)
    case atStart => exact ⟨rfl, rfl, New.rfl' w⟩
    case round =>
      obtain ⟨rfl, rfl, hr⟩ := hrel
      go_wp2_with (first
            | (go_at_call 25; refine (HA.out _ (hl.new hr) hn hP).mono ?_; rintro e w1 ⟨rfl, hb1⟩; have hr1 := hr.call hb1))
      go_ret
      exact ⟨_, rfl, Kind.Own.nil, hr1⟩
end Go.Proofs.Ytkgebhmlogddcaa
