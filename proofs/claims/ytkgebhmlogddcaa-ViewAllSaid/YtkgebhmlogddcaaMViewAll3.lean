/- Part 3 of 7 of the proof of ViewAll: View2, View3, StK, ItemRef4, ItemRef5, ItemRef6, ItemLaw, Clear, View4, View5, View6, Copy. Conditions: none beyond the given statement's own. -/
import Derived.Test.YtkgebhmlogddcaaMViewAll2
import Derived.Laws.Cover3
/- Contracts of the layer view and of its reference: the Seq of an Id; May, Of, Drop, Same of the reference. -/
namespace Go.Proofs.Ytkgebhmlogddcaa
open Go.RowKit
set_option linter.unusedSimpArgs false
attribute [local go_sem] rowAt_alloc_at rowAt_alloc_past rowOk_alloc_at rowOk_alloc_past rowAt_drew rowOk_drew setRow_alloc_at setRow_alloc_past rowAt_setRow rowAt_setRow_far rowOk_setRow cell_rowOk frozen_rowOk setCell_rowOk setRow_setRow con_fold con_get con_size con_set set_all none8_cells equalIn_con storeCells_con
attribute [local go_sem] it_size it_0 it_1 it_2 it_3 it_4 it_5 it_6 it_7 it_8 it_9 it_10 it_set0 it_set1 it_set2 it_fold it_zero it_eta it_fill run_storeCells_it
attribute [local go_sem] sn_size sn_0 sn_1 sn_set0 sn_set1 sn_fold sn_eta sn_fill run_storeCells_sn eqg_sn eqg_it
attribute [local go_sem high] equalIn_sn equalIn_it

theorem spos_has (l : List Sn) (id : Int) (hm : risS 0 l = true) (h : hasS l id = true) : ∃ hp : posS l id < l.length, l[posS l id].1 = id ∧ l.find? (fun x => x.1 == id) = some l[posS l id] := by
  obtain ⟨q, hq, he⟩ := (hasS_iff l id).1 h
  have hlt := risS_lt 0 l hm
  have hp : posS l id = q := posS_of l id q (by omega) (fun p hp hpq => by have := hlt p q hq hpq; omega) (fun p hp hpq => by
    by_cases e : p = q
    · subst e; omega
    · have := hlt q p hp (by omega); omega)
  rw [hp]
  refine ⟨hq, he, ?_⟩
  rw [List.find?_eq_some_iff_getElem]
  refine ⟨by simpa using he, q, hq, rfl, fun j hj => ?_⟩
  have := hlt j q hq hj
  simp; omega

def findS (l : List Sn) (id : Int) : Option Int := if risS 0 l then (l.find? (fun x => x.1 == id)).map (·.2) else none
theorem findS_yes (l : List Sn) (id : Int) (hm : risS 0 l = true) (h : hasS l id = true) : ∃ hp : posS l id < l.length, findS l id = some l[posS l id].2 := by
  obtain ⟨hp, _, hf⟩ := spos_has l id hm h
  exact ⟨hp, by rw [findS, if_pos hm, hf]; rfl⟩
theorem findS_no (l : List Sn) (id : Int) (h : hasS l id = false) : findS l id = none := by
  rw [findS]
  split
  · have : l.find? (fun x => x.1 == id) = none := by
      rw [List.find?_eq_none]
      intro x hx e
      have : hasS l id = true := by rw [hasS, List.any_eq_true]; exact ⟨x, hx, e⟩
      rw [h] at this; cases this
    rw [this]; rfl
  · rfl
theorem findS_not (l : List Sn) (id : Int) (h : risS 0 l = false) : findS l id = none := by rw [findS, h]; rfl

set_option maxHeartbeats 800000 in
theorem vof_any (A : Option Addr) (n c : Nat) (l : List Sn) (id : Int) (w : World) (hl : KS.Rd w A n l) (hn : n ≤ 140737488355328) :
    Calls Try.prog 39 #[.slice A n c, .int .u32 id] w fun e w' => e = .returned (.tuple #[.int .u64 ((findS l id).getD 0), .bool (findS l id).isSome]) ∧ New w w' := by
  obtain rfl : l.length = n := hl.1
  have hA1 := vmay_any A l.length c l
  rcases Bool.eq_false_or_eq_true (risS 0 l) with hm | hm
  · have hris := Lib.hid hm
    have hB1 := vfind_any A l.length c l id
    rw [hm] at hA1
    have HA := Lib.hid hA1
    clear hA1
    rcases Bool.eq_false_or_eq_true (hasS l id) with hh | hh
    · obtain ⟨hp, hx⟩ := findS_yes l id hm hh
      rw [hx]
      rw [hh] at hB1
      have HB := Lib.hid hB1
      clear hx hB1 hm hh
      generalize posS l id = p at *
      have hl3 := hl
      go_enter Try.func39, Try.ntmps39
      have hwA := fun w' (h : New w w') n hn => rowAt_below h n hn
      have hwO := fun w' (h : New w w') n hn => rowOk_below h n hn
      have hwS := fun w' (h : New w w') n (hn : n < w.heap.size) => eq_true (Nat.lt_of_lt_of_le hn h.size)
      obtain ⟨bhl, ohl, rfl, hbhl, hchl⟩ := hl.2 (by omega)
      have hrhl : ∀ w', New w w' → ∀ k (hk : k < l.length), w'.cell? ⟨bhl, ohl + k * 2, none⟩ = (snA l[k])[0]? := fun w' hw k hk => (hw.cell (p := ⟨bhl, _, none⟩) hbhl).trans (hchl k hk 0 (by decide))
      have hshl : ∀ w', New w w' → ∀ k (hk : k < l.length) j, j < 2 → w'.cell? ⟨bhl, ohl + k * 2 + j, none⟩ = (snA l[k])[j]? := fun w' hw k hk j hj => (hw.cell (p := ⟨bhl, _, none⟩) hbhl).trans (hchl k hk j hj)
      clear hchl
      go_wp2_with (first
        | (go_at_call 42; refine (HA.out _ hl3 hn).mono ?_; rintro e w1 ⟨rfl, hb1⟩)
        | (go_at_call 63; refine (HB.out _ (hl3.new hb1) hn hris.out).mono ?_; rintro e w2 ⟨rfl, hb⟩; have hb2 := New.call hb1 hb; clear hb))
      go_ret2
      exact ⟨rfl, hb2⟩
    · rw [findS_no l id hh]
      rw [hh] at hB1
      have HB := Lib.hid hB1
      clear hB1 hm hh
      go_enter Try.func39, Try.ntmps39
      have hwA := fun w' (h : New w w') n hn => rowAt_below h n hn
      have hwO := fun w' (h : New w w') n hn => rowOk_below h n hn
      have hwS := fun w' (h : New w w') n (hn : n < w.heap.size) => eq_true (Nat.lt_of_lt_of_le hn h.size)
      go_wp2_with (first
        | (go_at_call 42; refine (HA.out _ hl hn).mono ?_; rintro e w1 ⟨rfl, hb1⟩)
        | (go_at_call 63; refine (HB.out _ (hl.new hb1) hn hris.out).mono ?_; rintro e w2 ⟨rfl, hb⟩; have hb2 := New.call hb1 hb; clear hb))
      go_ret2
      exact ⟨rfl, hb2⟩
  · rw [findS_not l id hm]
    rw [hm] at hA1
    have HA := Lib.hid hA1
    clear hA1 hm
    go_enter Try.func39, Try.ntmps39
    have hwA := fun w' (h : New w w') n hn => rowAt_below h n hn
    have hwO := fun w' (h : New w w') n hn => rowOk_below h n hn
    have hwS := fun w' (h : New w w') n (hn : n < w.heap.size) => eq_true (Nat.lt_of_lt_of_le hn h.size)
    go_wp2_with (first
      | (go_at_call 42; refine (HA.out _ hl hn).mono ?_; rintro e w1 ⟨rfl, hb1⟩))
    go_ret2
    exact ⟨rfl, hb1⟩

/-! ### the reference -/
theorem sris_bad (l : List Sn) (k : Nat) (hk : k < l.length) (h : ¬ (lastS 0 (l.take k) < l[k].1)) : risS 0 l = false := by
  rw [← Bool.not_eq_true]
  intro h2
  have h3 := risS_take 0 l (k + 1) h2
  rw [risS_step 0 l k hk] at h3
  simp only [Bool.and_eq_true, decide_eq_true_eq] at h3
  exact h h3.2
theorem sris_good (l : List Sn) (k : Nat) (hk : k < l.length) (h0 : risS 0 (l.take k) = true) (h : lastS 0 (l.take k) < l[k].1) : risS 0 (l.take (k + 1)) = true := by
  rw [risS_step 0 l k hk, h0]; simp [h]
def PosS (l : List Sn) : Prop := ∀ x ∈ l, 0 ≤ x.1
theorem PosS.at {l : List Sn} (h : PosS l) (k : Nat) (hk : k < l.length) : 0 ≤ l[k].1 := h _ (List.getElem_mem _)

set_option maxHeartbeats 800000 in
theorem rvmay_any (A : Option Addr) (n c : Nat) (l : List Sn) (w : World) (hl : KS.Rd w A n l) (hn : n ≤ 140737488355328) (hP : PosS l) :
    Calls Try.prog 29 #[.slice A n c] w fun e w' => e = .returned (.bool (risS 0 l)) ∧ New w w' := by
  obtain rfl : l.length = n := hl.1
  go_enter Try.func29, Try.ntmps29
  go_wp2_with fail
  have hwA := fun w' (h : New w w') n hn => rowAt_below h n hn
  have hwO := fun w' (h : New w w') n hn => rowOk_below h n hn
  have hwS := fun w' (h : New w w') n (hn : n < w.heap.size) => eq_true (Nat.lt_of_lt_of_le hn h.size)
  go_loopw [3] (fun i wr => ∃ k : Nat, k ≤ l.length ∧ i = .int .i64 k ∧ New w wr ∧ Hid (risS 0 (l.take k) = true)) (fun i _ => l.length - (intOf i).toNat)
  case atStart => exact ⟨0, by omega, rfl, New.rfl' w, rfl⟩
  case round =>
    obtain ⟨k, hk, rfl, hr, hq⟩ := hrel
    by_cases hlt : k < l.length
    · have hbad := Lib.hid (sris_bad l k hlt)
      have hgood := Lib.hid (sris_good l k hlt hq.out)
      have hp := hP.at k hlt
      obtain ⟨bhl, ohl, rfl, hbhl, hchl⟩ := hl.2 (by omega)
      have hrhl : ∀ w', New w w' → ∀ k (hk : k < l.length), w'.cell? ⟨bhl, ohl + k * 2, none⟩ = (snA l[k])[0]? := fun w' hw k hk => (hw.cell (p := ⟨bhl, _, none⟩) hbhl).trans (hchl k hk 0 (by decide))
      have hshl : ∀ w', New w w' → ∀ k (hk : k < l.length) j, j < 2 → w'.cell? ⟨bhl, ohl + k * 2 + j, none⟩ = (snA l[k])[j]? := fun w' hw k hk j hj => (hw.cell (p := ⟨bhl, _, none⟩) hbhl).trans (hchl k hk j hj)
      clear hchl
      rcases Bool.eq_false_or_eq_true (l[k].1 == 0) with h1 | h1
      · have h1' := Lib.hid (show l[k].1 = 0 by simpa using h1)
        go_wp2_with fail
        go_quiet (fail)
        go_wp2_with fail
        go_ret
        refine ⟨?_, below_drewN hr _⟩
        have hla : 0 ≤ lastS 0 (l.take k) := by
          cases k with
          | zero => simp [lastS]
          | succ j => rw [lastS_step 0 l j (by omega)]; exact hP.at j (by omega)
        rw [hbad.out (by rw [h1'.out]; omega)]; rfl
      have h1' := Lib.hid (show l[k].1 ≠ 0 by simpa using h1)
      cases k with
      | zero =>
        have hz0 := fun w' hw => hrhl w' hw 0 hlt
        simp only [Nat.zero_mul, Nat.add_zero] at hz0
        go_wp2_with fail
        go_quiet (fail)
        go_wp2_with fail
        go_roundw
        case rel => exact ⟨0 + 1, by omega, by go_num, below_drewN hr _, hgood.out (by have := h1'.out; simp [lastS]; omega)⟩
        case measure => simp [intOf]; omega
      | succ j =>
        have hla := Lib.hid (lastS_step 0 l j (by omega))
        have iw : IntKind.i64.wrap ((j : Int) + 1 - 1) = (j : Int) := by rw [IntKind.wrap_i64]; omega
        have i2 : (0 : Int) < (j : Int) + 1 := by omega
        have i3 : j < l.length := by omega
        have i4 : (j : Int) < (l.length : Int) := by omega
        by_cases h3 : l[j + 1].1 ≤ l[j].1
        · go_wp2_with fail
          go_quiet (fail)
          go_wp2_with fail
          go_ret
          exact ⟨by rw [hbad.out (by rw [hla.out]; omega)]; rfl, below_drewN hr _⟩
        · go_wp2_with fail
          go_quiet (fail)
          go_wp2_with fail
          go_roundw
          case rel => exact ⟨j + 1 + 1, by omega, by go_num, below_drewN hr _, hgood.out (by rw [hla.out]; omega)⟩
          case measure => simp [intOf]; omega
    · go_wp2_with fail
      go_ret
      exact ⟨by have h := hq.out; rw [List.take_of_length_le (by omega)] at h; rw [h]; rfl, hr⟩
theorem slist_ne_at (a b : List Sn) (k : Nat) (ha : k < a.length) (hb : k < b.length) (h : a[k] ≠ b[k]) : a ≠ b := by
  intro e; subst e; exact h rfl
set_option maxHeartbeats 800000 in
theorem rvsame_any (A : Option Addr) (n c : Nat) (a : List Sn) (B : Option Addr) (m d : Nat) (b : List Sn) (w : World) (ha : KS.Rd w A n a) (hb : KS.Rd w B m b) (hn : n ≤ 140737488355328) (hm : m ≤ 140737488355328) :
    Calls Try.prog 34 #[.slice A n c, .slice B m d] w fun e w' => e = .returned (.bool (decide (a = b))) ∧ New w w' := by
  obtain rfl : a.length = n := ha.1
  obtain rfl : b.length = m := hb.1
  by_cases hab : a.length = b.length
  · have hE1 : ((a.length : Int) == (b.length : Int)) = true := by simp [hab]
    have HAB := Lib.hid hab
    clear hab
    go_enter Try.func34, Try.ntmps34
    go_wp2_with fail
    have hwA := fun w' (h : New w w') n hn => rowAt_below h n hn
    have hwO := fun w' (h : New w w') n hn => rowOk_below h n hn
    have hwS := fun w' (h : New w w') n (hn : n < w.heap.size) => eq_true (Nat.lt_of_lt_of_le hn h.size)
    go_loopw [5] (fun i wr => ∃ k : Nat, k ≤ a.length ∧ i = .int .i64 k ∧ New w wr ∧ ∀ q, (h : q < a.length) → (h2 : q < b.length) → q < k → Hid (a[q] = b[q])) (fun i _ => a.length - (intOf i).toNat)
    case atStart => exact ⟨0, by omega, rfl, New.rfl' w, fun _ _ _ h => absurd h (by omega)⟩
    case round =>
      obtain ⟨k, hk, rfl, hr, hq⟩ := hrel
      by_cases hlt : k < a.length
      · have hlt2 : k < b.length := by have := HAB.out; omega
        obtain ⟨bha, oha, rfl, hbha, hcha⟩ := ha.2 (by omega)
        have hrha : ∀ w', New w w' → ∀ k (hk : k < a.length), w'.cell? ⟨bha, oha + k * 2, none⟩ = (snA a[k])[0]? := fun w' hw k hk => (hw.cell (p := ⟨bha, _, none⟩) hbha).trans (hcha k hk 0 (by decide))
        have hsha : ∀ w', New w w' → ∀ k (hk : k < a.length) j, j < 2 → w'.cell? ⟨bha, oha + k * 2 + j, none⟩ = (snA a[k])[j]? := fun w' hw k hk j hj => (hw.cell (p := ⟨bha, _, none⟩) hbha).trans (hcha k hk j hj)
        clear hcha
        obtain ⟨bhb, ohb, rfl, hbhb, hchb⟩ := hb.2 (by omega)
        have hrhb : ∀ w', New w w' → ∀ k (hk : k < b.length), w'.cell? ⟨bhb, ohb + k * 2, none⟩ = (snA b[k])[0]? := fun w' hw k hk => (hw.cell (p := ⟨bhb, _, none⟩) hbhb).trans (hchb k hk 0 (by decide))
        have hshb : ∀ w', New w w' → ∀ k (hk : k < b.length) j, j < 2 → w'.cell? ⟨bhb, ohb + k * 2 + j, none⟩ = (snA b[k])[j]? := fun w' hw k hk j hj => (hw.cell (p := ⟨bhb, _, none⟩) hbhb).trans (hchb k hk j hj)
        clear hchb
        by_cases he : a[k] = b[k]
        · have hd : decide (a[k] = b[k]) = true := by simpa using he
          have HE := Lib.hid he
          clear he
          go_wp2_with fail
          go_quiet (fail)
          go_wp2_with fail
          go_roundw
          case rel => exact ⟨k + 1, by omega, by go_num, below_drewN hr _, fun q h h2 hqk => by
            rcases Nat.lt_succ_iff_lt_or_eq.1 hqk with h3 | rfl
            · exact hq q h h2 h3
            · exact HE⟩
          case measure => simp [intOf]; omega
        · have hd : decide (a[k] = b[k]) = false := by simpa using he
          have HE := Lib.hid he
          clear he
          go_wp2_with fail
          go_quiet (fail)
          go_wp2_with fail
          go_ret
          exact ⟨by rw [decide_eq_false (slist_ne_at a b k hlt hlt2 HE.out)]; rfl, below_drewN hr _⟩
      · go_wp2_with fail
        go_ret
        refine ⟨?_, hr⟩
        have : a = b := List.ext_getElem HAB.out fun q h1 h2 => (hq q h1 h2 (by omega)).out
        rw [decide_eq_true this]; rfl
  · have hE1 : ((a.length : Int) == (b.length : Int)) = false := by simp; omega
    have hne : a ≠ b := fun e => hab (by rw [e])
    have HN := Lib.hid hne
    clear hne hab
    go_enter Try.func34, Try.ntmps34
    go_wp2_with fail
    go_ret
    exact ⟨by rw [decide_eq_false HN.out]; rfl, New.rfl' w⟩

/-- a view without an Id -/
def dropS (l : List Sn) (id : Int) : List Sn := if risS 0 l then l.filter fun x => x.1 != id else []
set_option maxHeartbeats 800000 in
set_option maxRecDepth 100000 in
theorem rvdrop_any (A : Option Addr) (n c : Nat) (l : List Sn) (id : Int) (w : World) (hl : KS.Rd w A n l) (hn : n ≤ 1000) (hP : PosS l) :
    Calls Try.prog 35 #[.slice A n c, .int .u32 id] w fun e w' => ∃ v, e = .returned v ∧ KS.Own w' w.heap.size v (dropS l id) ∧ New w w' := by
  obtain rfl : l.length = n := hl.1
  rcases Bool.eq_false_or_eq_true (risS 0 l) with hm | hm
  · skip
    have hth : dropS l id = l.filter (fun x => x.1 != id) := by simp [dropS, hm]
    rw [hth]
    have hA1 := rvmay_any A l.length c l
    rw [hm] at hA1
    have HA := Lib.hid hA1
    clear hA1 hth hm
    have hl0 := hl
    go_enter Try.func35, Try.ntmps35
    have hwA := fun w' (h : New w w') n hn => rowAt_below h n hn
    have hwO := fun w' (h : New w w') n hn => rowOk_below h n hn
    have hwS := fun w' (h : New w w') n (hn : n < w.heap.size) => eq_true (Nat.lt_of_lt_of_le hn h.size)
    go_wp2_with fail
    go_loopw [5, 6] (fun v i wr => ∃ k : Nat, k ≤ l.length ∧ i = .int .i64 k ∧ New w wr ∧ KS.Own wr w.heap.size v ((l.take k).filter fun x => x.1 != id)) (fun _ i _ => l.length - (intOf i).toNat)
    case atStart => exact ⟨0, by omega, rfl, New.rfl' w, Kind.Own.nil⟩
    case round =>
      obtain ⟨k, hk, rfl, hr, hv⟩ := hrel
      by_cases hlt : k < l.length
      · have hst := Lib.hid (filter_step (fun x => x.1 != id) l k hlt)
        have hlen : ((l.take k).filter fun x => x.1 != id).length ≤ k := by have := List.length_filter_le (fun x : Sn => x.1 != id) (l.take k); rw [List.length_take] at this; omega
        obtain ⟨bhl, ohl, rfl, hbhl, hchl⟩ := hl.2 (by omega)
        have hrhl : ∀ w', New w w' → ∀ k (hk : k < l.length), w'.cell? ⟨bhl, ohl + k * 2, none⟩ = (snA l[k])[0]? := fun w' hw k hk => (hw.cell (p := ⟨bhl, _, none⟩) hbhl).trans (hchl k hk 0 (by decide))
        have hshl : ∀ w', New w w' → ∀ k (hk : k < l.length) j, j < 2 → w'.cell? ⟨bhl, ohl + k * 2 + j, none⟩ = (snA l[k])[j]? := fun w' hw k hk j hj => (hw.cell (p := ⟨bhl, _, none⟩) hbhl).trans (hchl k hk j hj)
        clear hchl
        generalize (l.take k).filter (fun x => x.1 != id) = L at *
        have hd : decide ((k : Int) < (l.length : Int)) = true := by simpa using hlt
        rcases Bool.eq_false_or_eq_true (l[k].1 != id) with h1 | h1
        · have hst2 := Lib.hid (show List.filter (fun x => x.1 != id) (l.take (k + 1)) = L ++ [l[k]] by rw [hst.out, h1]; rfl)
          go_wp2_with (first
            | (go_at_call 29; refine (HA.out _ (hl0.new hr) (by omega) hP).mono ?_; rintro e w1 ⟨rfl, hb1⟩; have hr1 := hr.call hb1; have hv1 := hv.new hb1)
            | (at_builtin; refine Kind.wpList_append1 rfl _ _ rfl rfl (hv1.alloc _) l[k] w1.heap.size rfl (by go_simp) (by go_simp <;> rfl) (by omega) KS_b (by have := hr1.size; simp only [World.size_alloc]; omega) ?_; intro v' w2 hv2 _ hg))
          go_roundw
          case rel => exact ⟨k + 1, by omega, by go_num, Kind.Own.grown (hr1.alloc' _) (hv1.alloc _) hg, by rw [hst2.out]; exact hv2⟩
          case measure => simp [intOf]; omega
        · have hst2 := Lib.hid (show List.filter (fun x => x.1 != id) (l.take (k + 1)) = L by rw [hst.out, h1]; simp)
          go_wp2_with (first
            | (go_at_call 29; refine (HA.out _ (hl0.new hr) (by omega) hP).mono ?_; rintro e w1 ⟨rfl, hb1⟩; have hr1 := hr.call hb1; have hv1 := hv.new hb1))
          go_roundw
          case rel => exact ⟨k + 1, by omega, by go_num, hr1, by rw [hst2.out]; exact hv1⟩
          case measure => simp [intOf]; omega
      · have hd : decide ((k : Int) < (l.length : Int)) = false := by simpa using hlt
        go_wp2_with (first
            | (go_at_call 29; refine (HA.out _ (hl0.new hr) (by omega) hP).mono ?_; rintro e w1 ⟨rfl, hb1⟩; have hr1 := hr.call hb1; have hv1 := hv.new hb1))
        go_ret
        exact ⟨_, rfl, by rw [List.take_of_length_le (by omega)] at hv1; exact hv1, hr1⟩
  · have hth : dropS l id = [] := by simp [dropS, hm]
    rw [hth]
    have hA1 := rvmay_any A l.length c l
    rw [hm] at hA1
    have HA := Lib.hid hA1
    clear hA1 hth hm
    go_enter Try.func35, Try.ntmps35
    have hwA := fun w' (h : New w w') n hn => rowAt_below h n hn
    have hwO := fun w' (h : New w w') n hn => rowOk_below h n hn
    have hwS := fun w' (h : New w w') n (hn : n < w.heap.size) => eq_true (Nat.lt_of_lt_of_le hn h.size)
    go_wp2_with fail
    go_loopw [5, 6] (fun v i wr => i = .int .i64 0 ∧ v = .slice none 0 0 ∧ New w wr) (fun _ _ _ => 0)
    case atStart => exact ⟨rfl, rfl, New.rfl' w⟩
    case round =>
      obtain ⟨rfl, rfl, hr⟩ := hrel
      go_wp2_with (first
            | (go_at_call 29; refine (HA.out _ (hl.new hr) (by omega) hP).mono ?_; rintro e w1 ⟨rfl, hb1⟩; have hr1 := hr.call hb1))
      go_ret
      exact ⟨_, rfl, Kind.Own.nil, hr1⟩

end Go.Proofs.Ytkgebhmlogddcaa
/- Contracts: the reference's Of; slices.Clone at what was told and at items. -/
namespace Go.Proofs.Ytkgebhmlogddcaa
open Go.RowKit
set_option linter.unusedSimpArgs false
attribute [local go_sem] rowAt_alloc_at rowAt_alloc_past rowOk_alloc_at rowOk_alloc_past rowAt_drew rowOk_drew setRow_alloc_at setRow_alloc_past rowAt_setRow rowAt_setRow_far rowOk_setRow cell_rowOk frozen_rowOk setCell_rowOk setRow_setRow con_fold con_get con_size con_set set_all none8_cells equalIn_con storeCells_con
attribute [local go_sem] it_size it_0 it_1 it_2 it_3 it_4 it_5 it_6 it_7 it_8 it_9 it_10 it_set0 it_set1 it_set2 it_fold it_zero it_eta it_fill run_storeCells_it
attribute [local go_sem] sn_size sn_0 sn_1 sn_set0 sn_set1 sn_fold sn_eta sn_fill run_storeCells_sn eqg_sn eqg_it
attribute [local go_sem high] equalIn_sn equalIn_it

theorem run_eql_slice_nil {P : Program} (w : World) (t e : TypeId) (a : Option Addr) (l c : Nat) (h : P.underlying t = some (.slice e)) : (binOp .eql t (.slice a l c) (.slice none 0 0)).run P w = .ok (.bool a.isNone) w := by
  simp only [binOp]
  simp [run_equal_slice_nil w t e a l c h]
attribute [local go_sem] run_eql_slice_nil
/-- a row of no cells, newly made -/
theorem Kind.Own.empty {α : Type} (K : Kind α) (w : World) : K.Own (w.alloc (Obj.cells #[] K.e)) w.heap.size (.slice (some ⟨w.heap.size, 0, none⟩) 0 0) [] :=
  World.ownsRow_lit (base := w.heap.size) (e := K.e) (size := K.sz) w #[] 0 (Nat.le_refl _) (Nat.zero_le _) (by simp)

set_option maxHeartbeats 800000 in
set_option maxRecDepth 100000 in
theorem cloneS_any (A : Option Addr) (n c : Nat) (l : List Sn) (w : World) (hl : KS.Rd w A n l) (hn : n ≤ 1000) :
    Calls Try.prog 57 #[.slice A n c] w fun e w' => ∃ v, e = .returned v ∧ KS.Own w' w.heap.size v l ∧ New w w' := by
  obtain rfl : l.length = n := hl.1
  cases A with
  | none =>
    have hm : l = [] := by
      cases l with
      | nil => rfl
      | cons x m => obtain ⟨b, o, h, _⟩ := hl.2 (by simp); cases h
    subst hm
    go_enter Try.func57, Try.ntmps57
    go_wp2_with fail
    go_ret
    exact ⟨_, rfl, Kind.Own.nil, New.rfl' w⟩
  | some ad =>
    go_enter Try.func57, Try.ntmps57
    go_wp2_with (first
      | (at_builtin; refine Kind.wpList_appendN rfl _ _ rfl rfl (Kind.Own.empty KS w) rfl (hl.alloc _) (by simp; omega) KS_b (by simp only [World.size_alloc]; omega) ?_; intro v' w2 hv hg; have hr : New w w2 := Kind.Own.grown ((New.rfl' w).alloc' _) (Kind.Own.empty KS w) hg; rw [List.nil_append] at hv; clear hg))
    go_ret
    exact ⟨_, rfl, hv, hr⟩
set_option maxHeartbeats 800000 in
set_option maxRecDepth 100000 in
theorem cloneI_any (A : Option Addr) (n c : Nat) (l : List It) (w : World) (hl : KI.Rd w A n l) (hn : n ≤ 1000) :
    Calls Try.prog 56 #[.slice A n c] w fun e w' => ∃ v, e = .returned v ∧ KI.Own w' w.heap.size v l ∧ New w w' := by
  obtain rfl : l.length = n := hl.1
  cases A with
  | none =>
    have hm : l = [] := by
      cases l with
      | nil => rfl
      | cons x m => obtain ⟨b, o, h, _⟩ := hl.2 (by simp); cases h
    subst hm
    go_enter Try.func56, Try.ntmps56
    go_wp2_with fail
    go_ret
    exact ⟨_, rfl, Kind.Own.nil, New.rfl' w⟩
  | some ad =>
    go_enter Try.func56, Try.ntmps56
    go_wp2_with (first
      | (at_builtin; refine Kind.wpList_appendN rfl _ _ rfl rfl (Kind.Own.empty KI w) rfl (hl.alloc _) (by simp; omega) KI_b (by simp only [World.size_alloc]; omega) ?_; intro v' w2 hv hg; have hr : New w w2 := Kind.Own.grown ((New.rfl' w).alloc' _) (Kind.Own.empty KI w) hg; rw [List.nil_append] at hv; clear hg))
    go_ret
    exact ⟨_, rfl, hv, hr⟩

theorem findS_at (l : List Sn) (id : Int) (hm : risS 0 l = true) (k : Nat) (hk : k < l.length) (h : l[k].1 = id) (hq : ∀ q, (h : q < l.length) → q < k → Hid (l[q].1 ≠ id)) : findS l id = some l[k].2 := by
  have : l.find? (fun x => x.1 == id) = some l[k] := by
    rw [List.find?_eq_some_iff_getElem]
    exact ⟨by simpa using h, k, hk, rfl, fun j hj => by simpa using (hq j (by omega) hj).out⟩
  rw [findS, if_pos hm, this]; rfl
theorem findS_end (l : List Sn) (id : Int) (hq : ∀ q, (h : q < l.length) → Hid (l[q].1 ≠ id)) : findS l id = none := by
  refine findS_no l id ?_
  rw [← Bool.not_eq_true, hasS, List.any_eq_true]
  rintro ⟨x, hx, e⟩
  obtain ⟨q, hq2, rfl⟩ := List.getElem_of_mem hx
  exact (hq q hq2).out (by simpa using e)

set_option maxHeartbeats 800000 in
theorem rvof_any (A : Option Addr) (n c : Nat) (l : List Sn) (id : Int) (w : World) (hl : KS.Rd w A n l) (hn : n ≤ 140737488355328) (hP : PosS l) :
    Calls Try.prog 31 #[.slice A n c, .int .u32 id] w fun e w' => e = .returned (.tuple #[.int .u64 ((findS l id).getD 0), .bool (findS l id).isSome]) ∧ New w w' := by
  obtain rfl : l.length = n := hl.1
  have hA1 := rvmay_any A l.length c l
  rcases Bool.eq_false_or_eq_true (risS 0 l) with hm | hm
  · rw [hm] at hA1
    have HA := Lib.hid hA1
    have HM := Lib.hid hm
    clear hA1 hm
    have hl0 := hl
    go_enter Try.func31, Try.ntmps31
    have hwA := fun w' (h : New w w') n hn => rowAt_below h n hn
    have hwO := fun w' (h : New w w') n hn => rowOk_below h n hn
    have hwS := fun w' (h : New w w') n (hn : n < w.heap.size) => eq_true (Nat.lt_of_lt_of_le hn h.size)
    go_wp2_with fail
    go_loopw [6] (fun i wr => ∃ k : Nat, k ≤ l.length ∧ i = .int .i64 k ∧ New w wr ∧ ∀ q, (h : q < l.length) → q < k → Hid (l[q].1 ≠ id)) (fun i _ => l.length - (intOf i).toNat)
    case atStart => exact ⟨0, by omega, rfl, New.rfl' w, fun _ _ h => absurd h (by omega)⟩
    case round =>
      obtain ⟨k, hk, rfl, hr, hq⟩ := hrel
      by_cases hlt : k < l.length
      · skip
        obtain ⟨bhl, ohl, rfl, hbhl, hchl⟩ := hl.2 (by omega)
        have hrhl : ∀ w', New w w' → ∀ k (hk : k < l.length), w'.cell? ⟨bhl, ohl + k * 2, none⟩ = (snA l[k])[0]? := fun w' hw k hk => (hw.cell (p := ⟨bhl, _, none⟩) hbhl).trans (hchl k hk 0 (by decide))
        have hshl : ∀ w', New w w' → ∀ k (hk : k < l.length) j, j < 2 → w'.cell? ⟨bhl, ohl + k * 2 + j, none⟩ = (snA l[k])[j]? := fun w' hw k hk j hj => (hw.cell (p := ⟨bhl, _, none⟩) hbhl).trans (hchl k hk j hj)
        clear hchl
        have hd : decide ((k : Int) < (l.length : Int)) = true := by simpa using hlt
        rcases Bool.eq_false_or_eq_true (l[k].1 == id) with h1 | h1
        · have h1' := Lib.hid (show l[k].1 = id by simpa using h1)
          go_wp2_with (first
            | (go_at_call 29; refine (HA.out _ (hl0.new hr) hn hP).mono ?_; rintro e w1 ⟨rfl, hb1⟩; have hr1 := hr.call hb1))
          go_ret2
          exact ⟨by rw [findS_at l id HM.out k hlt h1'.out hq]; rfl, hr1⟩
        · have h1' := Lib.hid (show l[k].1 ≠ id by simpa using h1)
          go_wp2_with (first
            | (go_at_call 29; refine (HA.out _ (hl0.new hr) hn hP).mono ?_; rintro e w1 ⟨rfl, hb1⟩; have hr1 := hr.call hb1))
          go_roundw
          case rel => exact ⟨k + 1, by omega, by go_num, hr1, fun q h h2 => by
            rcases Nat.lt_succ_iff_lt_or_eq.1 h2 with h3 | rfl
            · exact hq q h h3
            · exact h1'⟩
          case measure => simp [intOf]; omega
      · have hd : decide ((k : Int) < (l.length : Int)) = false := by simpa using hlt
        go_wp2_with (first
            | (go_at_call 29; refine (HA.out _ (hl0.new hr) hn hP).mono ?_; rintro e w1 ⟨rfl, hb1⟩; have hr1 := hr.call hb1))
        go_ret2
        exact ⟨by rw [findS_end l id fun q h => hq q h (by omega)]; rfl, hr1⟩
  · rw [findS_not l id hm]
    rw [hm] at hA1
    have HA := Lib.hid hA1
    clear hA1 hm
    go_enter Try.func31, Try.ntmps31
    have hwA := fun w' (h : New w w') n hn => rowAt_below h n hn
    have hwO := fun w' (h : New w w') n hn => rowOk_below h n hn
    have hwS := fun w' (h : New w w') n (hn : n < w.heap.size) => eq_true (Nat.lt_of_lt_of_le hn h.size)
    go_wp2_with fail
    go_loopw [6] (fun i wr => i = .int .i64 0 ∧ New w wr) (fun _ _ => 0)
    case atStart => exact ⟨rfl, New.rfl' w⟩
    case round =>
      obtain ⟨rfl, hr⟩ := hrel
      go_wp2_with (first
            | (go_at_call 29; refine (HA.out _ (hl.new hr) hn hP).mono ?_; rintro e w1 ⟨rfl, hb1⟩; have hr1 := hr.call hb1))
      go_ret2
      exact ⟨rfl, hr1⟩
end Go.Proofs.Ytkgebhmlogddcaa
/- Stores of whole elements, of any kind, into rows of the call's own. No condition: helpers alone. -/
namespace Go.Proofs.Ytkgebhmlogddcaa
open Go.RowKit
namespace Kind
variable {α : Type} (K : Kind α)
/-- a row's cells with one element more set -/
def putK (cs : Array Value) (p : Nat) (x : α) : Array Value := (cs.toList.take (p * K.sz) ++ (K.enc x).toList ++ cs.toList.drop (p * K.sz + K.sz)).toArray
theorem putK_size (cs : Array Value) (p : Nat) (x : α) (h : p * K.sz + K.sz ≤ cs.size) : (K.putK cs p x).size = cs.size := by
  have := K.hsz x
  simp [putK, this]; omega
theorem run_storeCells_k (w : World) (g p : Nat) (x : α) (h : rowOk w g = true) (hs : p * K.sz + K.sz ≤ (rowAt w g).size) :
    (storeCells ⟨g, p * K.sz, none⟩ (K.enc x).toList).run Try.prog w = .ok () (w.setRow g (K.putK (rowAt w g) p x)) := by
  obtain ⟨t, ht⟩ := rowOk_get w h
  have h1 := K.hsz x
  have := run_storeCells_at (P := Try.prog) g (p * K.sz) t (K.enc x).toList 0 (rowAt w g) w ht (by rw [Array.length_toList, h1]; omega) (fun v hv => (Array.all_eq_true_iff_forall_mem.1 (K.one x)) v (by simpa using hv))
  simpa [putK, h1] using this
theorem flat_setK (l : List α) (p : Nat) (x : α) (hp : p < l.length) : (K.flat l).take (p * K.sz) ++ (K.enc x).toList ++ (K.flat l).drop (p * K.sz + K.sz) = K.flat (l.set p x) := by
  have hl : l = l.take p ++ [l[p]] ++ l.drop (p + 1) := by simp
  have h1 : (K.flat (l.take p)).length = p * K.sz := by rw [K.flat_length, List.length_take, show min p l.length = p by omega]
  have h2 : (K.flat [l[p]]).length = K.sz := by rw [K.flat_length]; simp
  have h3 : K.flat l = K.flat (l.take p) ++ (K.flat [l[p]] ++ K.flat (l.drop (p + 1))) := by
    rw [← K.flat_append, ← K.flat_append, ← List.append_assoc, ← hl]
  rw [h3, List.take_append_of_le_length (by omega), List.take_of_length_le (by omega), ← h1, List.drop_append, List.drop_of_length_le (by omega), List.nil_append,
    show (K.flat (l.take p)).length + K.sz - (K.flat (l.take p)).length = K.sz by omega, ← h2, List.drop_left, List.set_eq_take_append_cons_drop, if_pos hp, K.flat_append, K.flat_cons, List.append_assoc]
variable {K}
/-- where an own row lies -/
theorem Own.spotK {w : World} {base n c : Nat} {A : Option Addr} {l : List α} (h : K.Own w base (.slice A n c) l) (h0 : 0 < l.length) :
    ∃ g, A = some ⟨g, 0, none⟩ ∧ n = l.length ∧ l.length ≤ c ∧ base ≤ g ∧ rowOk w g = true ∧ (rowAt w g).size = c * K.sz := by
  rcases h.2 with ⟨_, hn⟩ | ⟨g, cap, cur, hv, hb, hg, hnc, _, hcs, _⟩
  · omega
  · injection hv with h1 h2 h3
    subst h1; subst h2; subst h3
    refine ⟨g, rfl, rfl, hnc, hb, ?_, ?_⟩
    · unfold rowOk; rw [hg]; rfl
    · unfold rowAt; rw [hg]; exact hcs
theorem Own.putK {w : World} {base n c g p : Nat} {l : List α} (h : K.Own w base (.slice (some ⟨g, 0, none⟩) n c) l) (x : α) (hp : p < l.length) :
    K.Own (w.setRow g (K.putK (rowAt w g) p x)) base (.slice (some ⟨g, 0, none⟩) n c) (l.set p x) := by
  rcases h.2 with ⟨hv, _⟩ | ⟨g', cap, cur, hv, hb, hg, hnc, hcm, hcs, htake⟩
  · cases hv
  · injection hv with h1 h2 h3
    injection h1 with h1
    injection h1 with h1
    subst h1; subst h2; subst h3
    have hr : rowAt w g = cur := by unfold rowAt; rw [hg]
    have hlt : p * K.sz + K.sz ≤ l.length * K.sz := by
      have : (p + 1) * K.sz ≤ l.length * K.sz := Nat.mul_le_mul_right _ hp
      rw [Nat.add_mul] at this; omega
    have hlc : l.length * K.sz ≤ c * K.sz := Nat.mul_le_mul_right _ hnc
    unfold Own
    rw [List.length_set]
    refine ⟨by rw [K.flat_length, List.length_set], .inr ⟨g, c, K.putK cur p x, rfl, hb, by rw [hr]; exact setRow_heap w g cur _ _ _ hg, hnc, hcm, by rw [putK_size _ _ _ _ (by omega)]; exact hcs, ?_⟩⟩
    have h11 : (K.enc x).toList.length = K.sz := by rw [Array.length_toList, K.hsz]
    show ((cur.toList.take (p * K.sz) ++ (K.enc x).toList ++ cur.toList.drop (p * K.sz + K.sz)).toArray.toList).take (l.length * K.sz) = _
    have := seg_take cur.toList (K.enc x).toList (p * K.sz) (l.length * K.sz) (by rw [h11]; omega) (by have e : cur.toList.length = cur.size := Array.length_toList; omega)
    rw [h11, htake] at this
    rw [this, K.flat_setK l p x hp]
/-- its head alone -/
theorem Own.head {w : World} {base n c i : Nat} {A : Option Addr} {l : List α} (h : K.Own w base (.slice A n c) l) (hi : i ≤ l.length) : K.Own w base (.slice A i c) (l.take i) := by
  rcases h.2 with ⟨hv, hn⟩ | ⟨g, cap, cur, hv, hb, hg, hnc, hcm, hcs, htake⟩
  · injection hv with h1 h2 h3
    subst h1; subst h3
    have hl : l = [] := List.eq_nil_of_length_eq_zero hn
    subst hl
    have : i = 0 := by simpa using hi
    subst this
    exact Own.nil
  · injection hv with h1 h2 h3
    subst h1; subst h2; subst h3
    have hlen : (l.take i).length = i := by rw [List.length_take]; omega
    unfold Own
    rw [hlen]
    refine ⟨by rw [K.flat_length, hlen], .inr ⟨g, c, cur, rfl, hb, hg, by omega, hcm, hcs, ?_⟩⟩
    have hle : i * K.sz ≤ l.length * K.sz := Nat.mul_le_mul_right _ hi
    have e1 : cur.toList.take (i * K.sz) = (K.flat l).take (i * K.sz) := by rw [← htake, List.take_take, Nat.min_eq_left hle]
    have e2 : K.flat l = K.flat (l.take i) ++ K.flat (l.drop i) := by rw [← K.flat_append, List.take_append_drop]
    rw [e1, e2, List.take_append_of_le_length (by rw [K.flat_length, hlen]; omega), List.take_of_length_le (by rw [K.flat_length, hlen]; omega)]
end Kind
end Go.Proofs.Ytkgebhmlogddcaa
/- Contracts of the reference of the layer item: Drop, Change. -/
namespace Go.Proofs.Ytkgebhmlogddcaa
open Go.RowKit
set_option linter.unusedSimpArgs false
attribute [local go_sem] rowAt_alloc_at rowAt_alloc_past rowOk_alloc_at rowOk_alloc_past rowAt_drew rowOk_drew setRow_alloc_at setRow_alloc_past rowAt_setRow rowAt_setRow_far rowOk_setRow cell_rowOk frozen_rowOk setCell_rowOk setRow_setRow con_fold con_get con_size con_set set_all none8_cells equalIn_con storeCells_con
attribute [local go_sem] it_size it_0 it_1 it_2 it_3 it_4 it_5 it_6 it_7 it_8 it_9 it_10 it_set0 it_set1 it_set2 it_fold it_zero it_eta it_fill run_storeCells_it
attribute [local go_sem high] equalIn_it
attribute [local go_sem] run_storeCells_itp eqg_it

set_option maxHeartbeats 800000 in
theorem refDrop_bad (A : Option Addr) (n c : Nat) (l : List It) (id : Int) (w : World) (hl : KI.Rd w A n l) (hn : n ≤ 140737488355328) (hP : PosI l) (hm : mayI l = false) :
    Calls Try.prog 17 #[.slice A n c, .int .u32 id] w fun e w' => e = .returned (.tuple #[.slice none 0 0, .int .i64 2]) ∧ New w w' := by
  obtain rfl : l.length = n := hl.1
  have hA1 := refmay_any A l.length c l
  rw [hm] at hA1
  have HA := Lib.hid hA1
  clear hA1 hm
  go_enter Try.func17, Try.ntmps17
  have hwA := fun w' (h : New w w') n hn => rowAt_below h n hn
  have hwO := fun w' (h : New w w') n hn => rowOk_below h n hn
  have hwS := fun w' (h : New w w') n (hn : n < w.heap.size) => eq_true (Nat.lt_of_lt_of_le hn h.size)
  have hl2 := hl
  go_wp2_with (first
    | (go_at_call 25; refine (HA.out _ hl2 (by omega) hP).mono ?_; rintro e w1 ⟨rfl, hb1⟩))
  go_ret2
  exact ⟨rfl, hb1⟩
set_option maxHeartbeats 800000 in
theorem refDrop_none (A : Option Addr) (n c : Nat) (l : List It) (id : Int) (w : World) (hl : KI.Rd w A n l) (hn : n ≤ 140737488355328) (hP : PosI l) (hm : mayI l = true) (h3 : hasI l id = false) :
    Calls Try.prog 17 #[.slice A n c, .int .u32 id] w fun e w' => e = .returned (.tuple #[.slice none 0 0, .int .i64 7]) ∧ New w w' := by
  obtain rfl : l.length = n := hl.1
  have hA1 := refmay_any A l.length c l
  rw [hm] at hA1
  have HA := Lib.hid hA1
  have hB1 := refplace_any A l.length c l id
  rw [show atI l id = -1 by rw [atI, h3]; rfl] at hB1
  generalize posI l id = p at *
  have HB := Lib.hid hB1
  clear hB1 h3
  clear hA1 hm
  go_enter Try.func17, Try.ntmps17
  have hwA := fun w' (h : New w w') n hn => rowAt_below h n hn
  have hwO := fun w' (h : New w w') n hn => rowOk_below h n hn
  have hwS := fun w' (h : New w w') n (hn : n < w.heap.size) => eq_true (Nat.lt_of_lt_of_le hn h.size)
  have hl2 := hl
  go_wp2_with (first
    | (go_at_call 25; refine (HA.out _ hl2 (by omega) hP).mono ?_; rintro e w1 ⟨rfl, hb1⟩)
    | (go_at_call 49; refine (HB.out _ (hl2.new hb1) (by omega)).mono ?_; rintro e w2 ⟨rfl, hb⟩; have hb2 := New.call hb1 hb; clear hb))
  go_ret2
  exact ⟨rfl, hb2⟩
set_option maxHeartbeats 800000 in
theorem refChange_bad1 (A : Option Addr) (n c : Nat) (l : List It) (x : It) (w : World) (hl : KI.Rd w A n l) (hn : n ≤ 140737488355328) (hP : PosI l) (hm : mayI l = false) :
    Calls Try.prog 15 #[.slice A n c, .agg (itA x)] w fun e w' => e = .returned (.tuple #[.slice none 0 0, .int .i64 2]) ∧ New w w' := by
  obtain rfl : l.length = n := hl.1
  have hA1 := refmay_any A l.length c l
  rw [hm] at hA1
  have HA := Lib.hid hA1
  clear hA1 hm
  go_enter Try.func15, Try.ntmps15
  go_wp2_with fail
  have hnW : New w (w.alloc (Obj.cells (itA x) 28)) := (New.rfl' w).alloc' _
  generalize hW : (w.alloc (Obj.cells (itA x) 28)) = W at *
  have hWz0 : w.heap.size < W.heap.size := by rw [← hW]; simp only [World.size_alloc]; omega
  have hWa0 : rowAt W (w.heap.size) = itA x := by rw [← hW]; simp [go_sem]
  have hWo0 : rowOk W (w.heap.size) = true := by rw [← hW]; simp [go_sem]
  clear hW
  have hWA := fun w' (h : New W w') n hn => rowAt_below h n hn
  have hWO := fun w' (h : New W w') n hn => rowOk_below h n hn
  have hWS := fun w' (h : New W w') n (hn : n < W.heap.size) => eq_true (Nat.lt_of_lt_of_le hn h.size)
  have hl2 := hl.new hnW
  go_wp2_with (first
    | (go_at_call 25; refine (HA.out _ hl2 (by omega) hP).mono ?_; rintro e w1 ⟨rfl, hb1⟩))
  go_ret2
  exact ⟨rfl, hnW.call hb1⟩
set_option maxHeartbeats 800000 in
theorem refChange_bad2 (A : Option Addr) (n c : Nat) (l : List It) (x : It) (w : World) (hl : KI.Rd w A n l) (hn : n ≤ 140737488355328) (hP : PosI l) (hm : mayI l = true) (h2 : (x.2.1 == 0) = true) :
    Calls Try.prog 15 #[.slice A n c, .agg (itA x)] w fun e w' => e = .returned (.tuple #[.slice none 0 0, .int .i64 2]) ∧ New w w' := by
  obtain rfl : l.length = n := hl.1
  have hA1 := refmay_any A l.length c l
  rw [hm] at hA1
  have HA := Lib.hid hA1
  clear hA1 hm
  go_enter Try.func15, Try.ntmps15
  go_wp2_with fail
  have hnW : New w (w.alloc (Obj.cells (itA x) 28)) := (New.rfl' w).alloc' _
  generalize hW : (w.alloc (Obj.cells (itA x) 28)) = W at *
  have hWz0 : w.heap.size < W.heap.size := by rw [← hW]; simp only [World.size_alloc]; omega
  have hWa0 : rowAt W (w.heap.size) = itA x := by rw [← hW]; simp [go_sem]
  have hWo0 : rowOk W (w.heap.size) = true := by rw [← hW]; simp [go_sem]
  clear hW
  have hWA := fun w' (h : New W w') n hn => rowAt_below h n hn
  have hWO := fun w' (h : New W w') n hn => rowOk_below h n hn
  have hWS := fun w' (h : New W w') n (hn : n < W.heap.size) => eq_true (Nat.lt_of_lt_of_le hn h.size)
  have hl2 := hl.new hnW
  go_wp2_with (first
    | (go_at_call 25; refine (HA.out _ hl2 (by omega) hP).mono ?_; rintro e w1 ⟨rfl, hb1⟩))
  go_ret2
  exact ⟨rfl, hnW.call hb1⟩
set_option maxHeartbeats 800000 in
theorem refChange_none (A : Option Addr) (n c : Nat) (l : List It) (x : It) (w : World) (hl : KI.Rd w A n l) (hn : n ≤ 140737488355328) (hP : PosI l) (hm : mayI l = true) (h2 : (x.2.1 == 0) = false) (h3 : hasI l x.1 = false) :
    Calls Try.prog 15 #[.slice A n c, .agg (itA x)] w fun e w' => e = .returned (.tuple #[.slice none 0 0, .int .i64 7]) ∧ New w w' := by
  obtain rfl : l.length = n := hl.1
  have hA1 := refmay_any A l.length c l
  rw [hm] at hA1
  have HA := Lib.hid hA1
  have hB1 := refplace_any A l.length c l x.1
  rw [show atI l x.1 = -1 by rw [atI, h3]; rfl] at hB1
  generalize posI l x.1 = p at *
  have HB := Lib.hid hB1
  clear hB1 h3
  clear hA1 hm
  go_enter Try.func15, Try.ntmps15
  go_wp2_with fail
  have hnW : New w (w.alloc (Obj.cells (itA x) 28)) := (New.rfl' w).alloc' _
  generalize hW : (w.alloc (Obj.cells (itA x) 28)) = W at *
  have hWz0 : w.heap.size < W.heap.size := by rw [← hW]; simp only [World.size_alloc]; omega
  have hWa0 : rowAt W (w.heap.size) = itA x := by rw [← hW]; simp [go_sem]
  have hWo0 : rowOk W (w.heap.size) = true := by rw [← hW]; simp [go_sem]
  clear hW
  have hWA := fun w' (h : New W w') n hn => rowAt_below h n hn
  have hWO := fun w' (h : New W w') n hn => rowOk_below h n hn
  have hWS := fun w' (h : New W w') n (hn : n < W.heap.size) => eq_true (Nat.lt_of_lt_of_le hn h.size)
  have hl2 := hl.new hnW
  go_wp2_with (first
    | (go_at_call 25; refine (HA.out _ hl2 (by omega) hP).mono ?_; rintro e w1 ⟨rfl, hb1⟩)
    | (go_at_call 49; refine (HB.out _ (hl2.new hb1) (by omega)).mono ?_; rintro e w2 ⟨rfl, hb⟩; have hb2 := New.call hb1 hb; clear hb))
  go_ret2
  exact ⟨rfl, hnW.call hb2⟩
set_option maxHeartbeats 800000 in
theorem refAdd_bad1 (A : Option Addr) (n c : Nat) (l : List It) (x : It) (w : World) (hl : KI.Rd w A n l) (hn : n ≤ 140737488355328) (hP : PosI l) (hm : mayI l = false) :
    Calls Try.prog 13 #[.slice A n c, .agg (itA x)] w fun e w' => e = .returned (.tuple #[.slice none 0 0, .int .i64 2]) ∧ New w w' := by
  obtain rfl : l.length = n := hl.1
  have hA1 := refmay_any A l.length c l
  rw [hm] at hA1
  have HA := Lib.hid hA1
  clear hA1 hm
  go_enter Try.func13, Try.ntmps13
  go_wp2_with fail
  have hnW : New w (w.alloc (Obj.cells (itA x) 28)) := (New.rfl' w).alloc' _
  generalize hW : (w.alloc (Obj.cells (itA x) 28)) = W at *
  have hWz0 : w.heap.size < W.heap.size := by rw [← hW]; simp only [World.size_alloc]; omega
  have hWa0 : rowAt W (w.heap.size) = itA x := by rw [← hW]; simp [go_sem]
  have hWo0 : rowOk W (w.heap.size) = true := by rw [← hW]; simp [go_sem]
  clear hW
  have hWA := fun w' (h : New W w') n hn => rowAt_below h n hn
  have hWO := fun w' (h : New W w') n hn => rowOk_below h n hn
  have hWS := fun w' (h : New W w') n (hn : n < W.heap.size) => eq_true (Nat.lt_of_lt_of_le hn h.size)
  have hl2 := hl.new hnW
  go_wp2_with (first
    | (go_at_call 25; refine (HA.out _ hl2 (by omega) hP).mono ?_; rintro e w1 ⟨rfl, hb1⟩))
  go_ret2
  exact ⟨rfl, hnW.call hb1⟩
set_option maxHeartbeats 800000 in
theorem refAdd_bad2 (A : Option Addr) (n c : Nat) (l : List It) (x : It) (w : World) (hl : KI.Rd w A n l) (hn : n ≤ 140737488355328) (hP : PosI l) (hm : mayI l = true) (h1 : (x.1 == 0) = true) :
    Calls Try.prog 13 #[.slice A n c, .agg (itA x)] w fun e w' => e = .returned (.tuple #[.slice none 0 0, .int .i64 2]) ∧ New w w' := by
  obtain rfl : l.length = n := hl.1
  have hA1 := refmay_any A l.length c l
  rw [hm] at hA1
  have HA := Lib.hid hA1
  clear hA1 hm
  go_enter Try.func13, Try.ntmps13
  go_wp2_with fail
  have hnW : New w (w.alloc (Obj.cells (itA x) 28)) := (New.rfl' w).alloc' _
  generalize hW : (w.alloc (Obj.cells (itA x) 28)) = W at *
  have hWz0 : w.heap.size < W.heap.size := by rw [← hW]; simp only [World.size_alloc]; omega
  have hWa0 : rowAt W (w.heap.size) = itA x := by rw [← hW]; simp [go_sem]
  have hWo0 : rowOk W (w.heap.size) = true := by rw [← hW]; simp [go_sem]
  clear hW
  have hWA := fun w' (h : New W w') n hn => rowAt_below h n hn
  have hWO := fun w' (h : New W w') n hn => rowOk_below h n hn
  have hWS := fun w' (h : New W w') n (hn : n < W.heap.size) => eq_true (Nat.lt_of_lt_of_le hn h.size)
  have hl2 := hl.new hnW
  go_wp2_with (first
    | (go_at_call 25; refine (HA.out _ hl2 (by omega) hP).mono ?_; rintro e w1 ⟨rfl, hb1⟩))
  go_ret2
  exact ⟨rfl, hnW.call hb1⟩
set_option maxHeartbeats 800000 in
theorem refAdd_bad3 (A : Option Addr) (n c : Nat) (l : List It) (x : It) (w : World) (hl : KI.Rd w A n l) (hn : n ≤ 140737488355328) (hP : PosI l) (hm : mayI l = true) (h1 : (x.1 == 0) = false) (h2 : (x.2.1 == 0) = true) :
    Calls Try.prog 13 #[.slice A n c, .agg (itA x)] w fun e w' => e = .returned (.tuple #[.slice none 0 0, .int .i64 2]) ∧ New w w' := by
  obtain rfl : l.length = n := hl.1
  have hA1 := refmay_any A l.length c l
  rw [hm] at hA1
  have HA := Lib.hid hA1
  clear hA1 hm
  go_enter Try.func13, Try.ntmps13
  go_wp2_with fail
  have hnW : New w (w.alloc (Obj.cells (itA x) 28)) := (New.rfl' w).alloc' _
  generalize hW : (w.alloc (Obj.cells (itA x) 28)) = W at *
  have hWz0 : w.heap.size < W.heap.size := by rw [← hW]; simp only [World.size_alloc]; omega
  have hWa0 : rowAt W (w.heap.size) = itA x := by rw [← hW]; simp [go_sem]
  have hWo0 : rowOk W (w.heap.size) = true := by rw [← hW]; simp [go_sem]
  clear hW
  have hWA := fun w' (h : New W w') n hn => rowAt_below h n hn
  have hWO := fun w' (h : New W w') n hn => rowOk_below h n hn
  have hWS := fun w' (h : New W w') n (hn : n < W.heap.size) => eq_true (Nat.lt_of_lt_of_le hn h.size)
  have hl2 := hl.new hnW
  go_wp2_with (first
    | (go_at_call 25; refine (HA.out _ hl2 (by omega) hP).mono ?_; rintro e w1 ⟨rfl, hb1⟩))
  go_ret2
  exact ⟨rfl, hnW.call hb1⟩
set_option maxHeartbeats 800000 in
theorem refAdd_twice (A : Option Addr) (n c : Nat) (l : List It) (x : It) (w : World) (hl : KI.Rd w A n l) (hn : n ≤ 140737488355328) (hP : PosI l) (hm : mayI l = true) (h1 : (x.1 == 0) = false) (h2 : (x.2.1 == 0) = false) (h3 : hasI l x.1 = true) :
    Calls Try.prog 13 #[.slice A n c, .agg (itA x)] w fun e w' => e = .returned (.tuple #[.slice none 0 0, .int .i64 8]) ∧ New w w' := by
  obtain rfl : l.length = n := hl.1
  have hA1 := refmay_any A l.length c l
  rw [hm] at hA1
  have HA := Lib.hid hA1
  have hB1 := refplace_any A l.length c l x.1
  rw [show atI l x.1 = (posI l x.1 : Nat) from atI_pos l x.1 (risI_of l hm) h3] at hB1
  generalize posI l x.1 = p at *
  have HB := Lib.hid hB1
  clear hB1 h3
  clear hA1 hm
  go_enter Try.func13, Try.ntmps13
  go_wp2_with fail
  have hnW : New w (w.alloc (Obj.cells (itA x) 28)) := (New.rfl' w).alloc' _
  generalize hW : (w.alloc (Obj.cells (itA x) 28)) = W at *
  have hWz0 : w.heap.size < W.heap.size := by rw [← hW]; simp only [World.size_alloc]; omega
  have hWa0 : rowAt W (w.heap.size) = itA x := by rw [← hW]; simp [go_sem]
  have hWo0 : rowOk W (w.heap.size) = true := by rw [← hW]; simp [go_sem]
  clear hW
  have hWA := fun w' (h : New W w') n hn => rowAt_below h n hn
  have hWO := fun w' (h : New W w') n hn => rowOk_below h n hn
  have hWS := fun w' (h : New W w') n (hn : n < W.heap.size) => eq_true (Nat.lt_of_lt_of_le hn h.size)
  have hl2 := hl.new hnW
  go_wp2_with (first
    | (go_at_call 25; refine (HA.out _ hl2 (by omega) hP).mono ?_; rintro e w1 ⟨rfl, hb1⟩)
    | (go_at_call 49; refine (HB.out _ (hl2.new hb1) (by omega)).mono ?_; rintro e w2 ⟨rfl, hb⟩; have hb2 := New.call hb1 hb; clear hb))
  go_ret2
  exact ⟨rfl, hnW.call hb2⟩
set_option maxHeartbeats 800000 in
theorem refAdd_limit (A : Option Addr) (n c : Nat) (l : List It) (x : It) (w : World) (hl : KI.Rd w A n l) (hn : n ≤ 140737488355328) (hP : PosI l) (hm : mayI l = true) (h1 : (x.1 == 0) = false) (h2 : (x.2.1 == 0) = false) (h3 : hasI l x.1 = false) (h40 : (40 : Int) ≤ (l.length : Int)) :
    Calls Try.prog 13 #[.slice A n c, .agg (itA x)] w fun e w' => e = .returned (.tuple #[.slice none 0 0, .int .i64 3]) ∧ New w w' := by
  obtain rfl : l.length = n := hl.1
  have hA1 := refmay_any A l.length c l
  rw [hm] at hA1
  have HA := Lib.hid hA1
  have hB1 := refplace_any A l.length c l x.1
  rw [show atI l x.1 = -1 by rw [atI, h3]; rfl] at hB1
  generalize posI l x.1 = p at *
  have HB := Lib.hid hB1
  clear hB1 h3
  clear hA1 hm
  go_enter Try.func13, Try.ntmps13
  go_wp2_with fail
  have hnW : New w (w.alloc (Obj.cells (itA x) 28)) := (New.rfl' w).alloc' _
  generalize hW : (w.alloc (Obj.cells (itA x) 28)) = W at *
  have hWz0 : w.heap.size < W.heap.size := by rw [← hW]; simp only [World.size_alloc]; omega
  have hWa0 : rowAt W (w.heap.size) = itA x := by rw [← hW]; simp [go_sem]
  have hWo0 : rowOk W (w.heap.size) = true := by rw [← hW]; simp [go_sem]
  clear hW
  have hWA := fun w' (h : New W w') n hn => rowAt_below h n hn
  have hWO := fun w' (h : New W w') n hn => rowOk_below h n hn
  have hWS := fun w' (h : New W w') n (hn : n < W.heap.size) => eq_true (Nat.lt_of_lt_of_le hn h.size)
  have hl2 := hl.new hnW
  go_wp2_with (first
    | (go_at_call 25; refine (HA.out _ hl2 (by omega) hP).mono ?_; rintro e w1 ⟨rfl, hb1⟩)
    | (go_at_call 49; refine (HB.out _ (hl2.new hb1) (by omega)).mono ?_; rintro e w2 ⟨rfl, hb⟩; have hb2 := New.call hb1 hb; clear hb))
  go_ret2
  exact ⟨rfl, hnW.call hb2⟩
end Go.Proofs.Ytkgebhmlogddcaa
/- Contracts of the reference of the layer item: Drop, Change and Add, whole. -/
namespace Go.Proofs.Ytkgebhmlogddcaa
open Go.RowKit
set_option linter.unusedSimpArgs false
attribute [local go_sem] rowAt_alloc_at rowAt_alloc_past rowOk_alloc_at rowOk_alloc_past rowAt_drew rowOk_drew setRow_alloc_at setRow_alloc_past rowAt_setRow rowAt_setRow_far rowOk_setRow cell_rowOk frozen_rowOk setCell_rowOk setRow_setRow con_fold con_get con_size con_set set_all none8_cells equalIn_con storeCells_con
attribute [local go_sem] it_size it_0 it_1 it_2 it_3 it_4 it_5 it_6 it_7 it_8 it_9 it_10 it_set0 it_set1 it_set2 it_fold it_zero it_eta it_fill run_storeCells_it
attribute [local go_sem high] equalIn_it
attribute [local go_sem] run_storeCells_itp eqg_it

set_option maxHeartbeats 800000 in
set_option maxRecDepth 100000 in
theorem refDrop_ok (A : Option Addr) (n c : Nat) (l : List It) (id : Int) (w : World) (hl : KI.Rd w A n l) (hc : n ≤ c) (hP : PosI l) (hm : mayI l = true) (h3 : hasI l id = true) :
    Calls Try.prog 17 #[.slice A n c, .int .u32 id] w fun e w' => ∃ v, e = .returned (.tuple #[v, .int .i64 0]) ∧ KI.Own w' w.heap.size v (drpI l id) ∧ New w w' := by
  obtain rfl : l.length = n := hl.1
  have h40 := mayI_len l hm
  obtain ⟨hlt, _, _⟩ := pos_has l id (risI_of l hm) h3
  have hA1 := refmay_any A l.length c l
  rw [hm] at hA1
  have HA := Lib.hid hA1
  have hB1 := refplace_any A l.length c l id
  rw [atI_pos l id (risI_of l hm) h3] at hB1
  have HB := Lib.hid hB1
  have hins := Lib.hid (drpI_eq l id)
  clear hA1 hB1 hm h3
  generalize hpp : posI l id = p at *
  have Hpp := Lib.hid hpp
  clear hpp
  have i1 : (p : Int) ≤ (l.length : Int) := by omega
  have i2 : (p : Int) ≤ (c : Int) := by omega
  have i3 : (l.length : Int) ≤ (c : Int) := by omega
  have i4 : (p : Int) + 1 ≤ (l.length : Int) := by omega
  have i5 : (p : Int) + 1 ≤ (c : Int) := by omega
  have iw : IntKind.i64.wrap ((p : Int) + 1) = (p : Int) + 1 := by rw [IntKind.wrap_i64]; omega
  have i0 : (0 : Int) ≤ (p : Int) + 1 := by omega
  by_cases hcp : c = p + 1
  · subst hcp
    have HR := Lib.hid (show ∀ w', New w w' → KI.Rd w' A 0 (l.drop (p + 1)) from fun w' h => by have := (hl.new h).cut (k := p + 1) (by omega) hc; rwa [if_pos rfl, show l.length - (p + 1) = 0 by omega] at this)
    have i6 : (l.length : Int) ≤ (p : Int) + 1 := by omega
    have i7 : (p : Int) ≤ (p : Int) + 1 := by omega
    clear i2 i3 i5
    go_enter Try.func17, Try.ntmps17
    have hwA := fun w' (h : New w w') n hn => rowAt_below h n hn
    have hwO := fun w' (h : New w w') n hn => rowOk_below h n hn
    have hwS := fun w' (h : New w w') n (hn : n < w.heap.size) => eq_true (Nat.lt_of_lt_of_le hn h.size)
    go_wp2_with (first
      | (go_at_call 25; refine (HA.out _ hl (by omega) hP).mono ?_; rintro e w1 ⟨rfl, hb1⟩)
      | (go_at_call 49; refine (HB.out _ (hl.new hb1) (by omega)).mono ?_; rintro e w2 ⟨rfl, hb⟩; have hb2 := New.call hb1 hb; clear hb)
      | (at_builtin; refine Kind.wpList_appendN rfl _ _ rfl rfl (Kind.Own.nil (K := KI) (base := w.heap.size)) rfl ((hl.new hb2).upto (k := p) (by omega)) (by simp; omega) KI_b (by have := hb2.size; omega) ?_; intro v3 w3 hv3 hg3; have hr3 : New w w3 := Kind.Own.grown hb2 (Kind.Own.nil (K := KI)) hg3; clear hg3; rw [List.nil_append] at hv3)
      | (at_builtin; refine Kind.wpList_appendN rfl _ _ rfl rfl hv3 rfl (HR.out _ hr3) (by simp; omega) KI_b (by have := hr3.size; omega) ?_; intro v4 w4 hv4 hg4; have hr4 : New w w4 := Kind.Own.grown hr3 hv3 hg4; clear hg4))
    go_ret2
    exact ⟨_, rfl, by rw [hins.out]; exact hv4, hr4⟩
  · have HR := Lib.hid (show ∀ w', New w w' → KI.Rd w' (Option.map (fun x => x.add ((p + 1) * 11)) A) (l.length - (p + 1)) (l.drop (p + 1)) from fun w' h => by have := (hl.new h).cut (k := p + 1) (by omega) hc; rwa [if_neg hcp] at this)
    go_enter Try.func17, Try.ntmps17
    have hwA := fun w' (h : New w w') n hn => rowAt_below h n hn
    have hwO := fun w' (h : New w w') n hn => rowOk_below h n hn
    have hwS := fun w' (h : New w w') n (hn : n < w.heap.size) => eq_true (Nat.lt_of_lt_of_le hn h.size)
    go_wp2_with (first
      | (go_at_call 25; refine (HA.out _ hl (by omega) hP).mono ?_; rintro e w1 ⟨rfl, hb1⟩)
      | (go_at_call 49; refine (HB.out _ (hl.new hb1) (by omega)).mono ?_; rintro e w2 ⟨rfl, hb⟩; have hb2 := New.call hb1 hb; clear hb)
      | (at_builtin; refine Kind.wpList_appendN rfl _ _ rfl rfl (Kind.Own.nil (K := KI) (base := w.heap.size)) rfl ((hl.new hb2).upto (k := p) (by omega)) (by simp; omega) KI_b (by have := hb2.size; omega) ?_; intro v3 w3 hv3 hg3; have hr3 : New w w3 := Kind.Own.grown hb2 (Kind.Own.nil (K := KI)) hg3; clear hg3; rw [List.nil_append] at hv3)
      | (at_builtin; refine Kind.wpList_appendN rfl _ _ rfl rfl hv3 rfl (HR.out _ hr3) (by simp; omega) KI_b (by have := hr3.size; omega) ?_; intro v4 w4 hv4 hg4; have hr4 : New w w4 := Kind.Own.grown hr3 hv3 hg4; clear hg4))
    go_ret2
    exact ⟨_, rfl, by rw [hins.out]; exact hv4, hr4⟩

theorem chgI_set (l : List It) (x : It) (h : posI l x.1 < l.length) : chgI l x = l.set (posI l x.1) x := by
  rw [chgI, List.set_eq_take_append_cons_drop, if_pos h]; simp
set_option maxHeartbeats 1600000 in
set_option maxRecDepth 100000 in
theorem refChange_ok (A : Option Addr) (n c : Nat) (l : List It) (x : It) (w : World) (hl : KI.Rd w A n l) (hP : PosI l) (hm : mayI l = true) (h2 : (x.2.1 == 0) = false) (h3 : hasI l x.1 = true) :
    Calls Try.prog 15 #[.slice A n c, .agg (itA x)] w fun e w' => ∃ v, e = .returned (.tuple #[v, .int .i64 0]) ∧ KI.Own w' w.heap.size v (chgI l x) ∧ New w w' := by
  obtain rfl : l.length = n := hl.1
  have h40 := mayI_len l hm
  obtain ⟨hlt, _, _⟩ := pos_has l x.1 (risI_of l hm) h3
  rw [chgI_set l x hlt]
  have hA1 := refmay_any A l.length c l
  rw [hm] at hA1
  have HA := Lib.hid hA1
  have hB1 := refplace_any A l.length c l x.1
  rw [atI_pos l x.1 (risI_of l hm) h3] at hB1
  have HB := Lib.hid hB1
  clear hA1 hB1 hm h3
  generalize posI l x.1 = p at *
  have i1 : (p : Int) < (l.length : Int) := by omega
  go_enter Try.func15, Try.ntmps15
  go_wp2_with fail
  have hnW : New w (w.alloc (Obj.cells (itA x) 28)) := (New.rfl' w).alloc' _
  generalize hW : (w.alloc (Obj.cells (itA x) 28)) = W at *
  have hWz0 : w.heap.size < W.heap.size := by rw [← hW]; simp only [World.size_alloc]; omega
  have hWa0 : rowAt W (w.heap.size) = itA x := by rw [← hW]; simp [go_sem]
  have hWo0 : rowOk W (w.heap.size) = true := by rw [← hW]; simp [go_sem]
  clear hW
  have hWA := fun w' (h : New W w') n hn => rowAt_below h n hn
  have hWO := fun w' (h : New W w') n hn => rowOk_below h n hn
  have hWS := fun w' (h : New W w') n (hn : n < W.heap.size) => eq_true (Nat.lt_of_lt_of_le hn h.size)
  have hl2 := hl.new hnW
  go_wp2_with (first
      | (go_at_call 25; refine (HA.out _ hl2 (by omega) hP).mono ?_; rintro e w1 ⟨rfl, hb1⟩)
      | (go_at_call 49; refine (HB.out _ (hl2.new hb1) (by omega)).mono ?_; rintro e w2 ⟨rfl, hb⟩; have hb2 := New.call hb1 hb; clear hb)
      | (at_builtin; refine Kind.wpList_appendN rfl _ _ rfl rfl (Kind.Own.nil (K := KI) (base := W.heap.size)) rfl (hl2.new hb2) (by simp; omega) KI_b hb2.size ?_; intro v3 w3 hv3 hg3; have hr3 : New W w3 := Kind.Own.grown hb2 (Kind.Own.nil (K := KI)) hg3; clear hg3; rw [List.nil_append] at hv3; obtain ⟨A3, c3, rfl, hc3⟩ := hv3.form; obtain ⟨g, rfl, _, hg1, hg2, hg3⟩ := hv3.spot (by omega); have hg4 : p * 11 + 11 ≤ (rowAt w3 g).size := by omega))
  go_ret2
  have hz := hnW.size
  exact ⟨_, rfl, (hv3.put x hlt).lower hz, (hnW.call hr3).row _ _ (by omega)⟩
end Go.Proofs.Ytkgebhmlogddcaa
/- Contracts of the reference of the layer item: Add; all three whole. -/
namespace Go.Proofs.Ytkgebhmlogddcaa
open Go.RowKit
set_option linter.unusedSimpArgs false
attribute [local go_sem] rowAt_alloc_at rowAt_alloc_past rowOk_alloc_at rowOk_alloc_past rowAt_drew rowOk_drew setRow_alloc_at setRow_alloc_past rowAt_setRow rowAt_setRow_far rowOk_setRow cell_rowOk frozen_rowOk setCell_rowOk setRow_setRow con_fold con_get con_size con_set set_all none8_cells equalIn_con storeCells_con
attribute [local go_sem] it_size it_0 it_1 it_2 it_3 it_4 it_5 it_6 it_7 it_8 it_9 it_10 it_set0 it_set1 it_set2 it_fold it_zero it_eta it_fill run_storeCells_it
attribute [local go_sem high] equalIn_it
attribute [local go_sem] run_storeCells_itp eqg_it

theorem posI_cons_lt (x : It) (l : List It) (id : Int) (h : x.1 < id) : posI (x :: l) id = posI l id + 1 := by simp [posI, List.takeWhile_cons, h]
theorem posI_cons_ge (x : It) (l : List It) (id : Int) (h : ¬ x.1 < id) : posI (x :: l) id = 0 := by simp [posI, List.takeWhile_cons, h]
theorem posI_below (l : List It) (id : Int) : ∀ q, (h : q < l.length) → q < posI l id → l[q].1 < id := by
  induction l with
  | nil => intro q h; simp at h
  | cons x l ih =>
    intro q h hq
    by_cases hx : x.1 < id
    · rw [posI_cons_lt x l id hx] at hq
      cases q with
      | zero => exact hx
      | succ q => exact ih q (by simpa using h) (by omega)
    · rw [posI_cons_ge x l id hx] at hq; omega
theorem posI_here (l : List It) (id : Int) : ∀ q, (h : q < l.length) → q = posI l id → id ≤ l[q].1 := by
  induction l with
  | nil => intro q h; simp at h
  | cons x l ih =>
    intro q h hq
    by_cases hx : x.1 < id
    · rw [posI_cons_lt x l id hx] at hq
      subst hq
      exact ih _ (by simpa using h) rfl
    · rw [posI_cons_ge x l id hx] at hq
      subst hq
      simp only [List.getElem_cons_zero]
      omega
def stgI (l : List It) (x : It) (p k : Nat) : List It := if p < k then l.take p ++ [x] ++ (l.drop p).take (k - p) else l.take k
theorem stgI_len (l : List It) (x : It) (p k : Nat) (hk : k ≤ l.length) : (stgI l x p k).length ≤ k + 1 := by
  unfold stgI; split <;> simp <;> omega
theorem stgI_zero (l : List It) (x : It) (p : Nat) : stgI l x p 0 = [] := by simp [stgI]
theorem stgI_lt (l : List It) (x : It) (p k : Nat) (hk : k < l.length) (h : k < p) : stgI l x p (k + 1) = stgI l x p k ++ [l[k]] := by
  rw [stgI, stgI, if_neg (by omega), if_neg (by omega), List.take_succ_eq_append_getElem hk]
theorem stgI_at (l : List It) (x : It) (p : Nat) (hk : p < l.length) : stgI l x p (p + 1) = stgI l x p p ++ [x] ++ [l[p]] := by
  rw [stgI, stgI, if_pos (by omega), if_neg (by omega), show p + 1 - p = 0 + 1 by omega, List.take_succ_eq_append_getElem (by simp; omega)]
  simp
theorem stgI_gt (l : List It) (x : It) (p k : Nat) (hk : k < l.length) (h : p < k) : stgI l x p (k + 1) = stgI l x p k ++ [l[k]] := by
  rw [stgI, stgI, if_pos (by omega), if_pos (by omega), show k + 1 - p = (k - p) + 1 by omega, List.take_succ_eq_append_getElem (by simp; omega)]
  simp [show p + (k - p) = k by omega]
theorem stgI_end (l : List It) (x : It) (p : Nat) (h : p < l.length) : stgI l x p l.length = l.take p ++ [x] ++ l.drop p := by
  rw [stgI, if_pos h, List.take_of_length_le (l := l.drop p) (by simp)]
theorem stgI_last (l : List It) (x : It) (p : Nat) (h : p = l.length) : stgI l x p l.length ++ [x] = l.take p ++ [x] ++ l.drop p := by
  subst h; simp [stgI]

set_option maxHeartbeats 1600000 in
set_option maxRecDepth 100000 in
theorem refAdd_ok (A : Option Addr) (n c : Nat) (l : List It) (x : It) (w : World) (hl : KI.Rd w A n l) (hP : PosI l) (hm : mayI l = true) (h1 : (x.1 == 0) = false) (h2 : (x.2.1 == 0) = false) (h3 : hasI l x.1 = false) (h4 : l.length < 40) :
    Calls Try.prog 13 #[.slice A n c, .agg (itA x)] w fun e w' => ∃ v, e = .returned (.tuple #[v, .int .i64 0]) ∧ KI.Own w' w.heap.size v (insI l x) ∧ New w w' := by
  obtain rfl : l.length = n := hl.1
  have hple := posI_le l x.1
  have hbel := Lib.hid (posI_below l x.1)
  have habo := Lib.hid (show ∀ q, (h : q < l.length) → q = posI l x.1 → x.1 < l[q].1 from fun q h hq => by
    have h5 := posI_here l x.1 q h hq
    by_cases e : l[q].1 = x.1
    · rw [(hasI_iff l x.1).2 ⟨q, h, e⟩] at h3; cases h3
    · omega)
  rw [insI]
  have hA1 := refmay_any A l.length c l
  rw [hm] at hA1
  have HA := Lib.hid hA1
  have hB1 := refplace_any A l.length c l x.1
  rw [show atI l x.1 = -1 by rw [atI, h3]; rfl] at hB1
  have HB := Lib.hid hB1
  have h40 : (l.length : Int) < 40 := by omega
  clear hA1 hB1 hm h3
  generalize posI l x.1 = p at *
  have hl0 := hl
  go_enter Try.func13, Try.ntmps13
  go_wp2_with fail
  have hnW : New w (w.alloc (Obj.cells (itA x) 28)) := (New.rfl' w).alloc' _
  generalize hW : (w.alloc (Obj.cells (itA x) 28)) = W at *
  have hWz0 : w.heap.size < W.heap.size := by rw [← hW]; simp only [World.size_alloc]; omega
  have hWa0 : rowAt W (w.heap.size) = itA x := by rw [← hW]; simp [go_sem]
  have hWo0 : rowOk W (w.heap.size) = true := by rw [← hW]; simp [go_sem]
  clear hW
  have hWA := fun w' (h : New W w') n hn => rowAt_below h n hn
  have hWO := fun w' (h : New W w') n hn => rowOk_below h n hn
  have hWS := fun w' (h : New W w') n (hn : n < W.heap.size) => eq_true (Nat.lt_of_lt_of_le hn h.size)
  have hl2 := hl.new hnW
  have hl3 := hl2
  go_wp2_with (first
      | (go_at_call 25; refine (HA.out _ hl3 (by omega) hP).mono ?_; rintro e w1 ⟨rfl, hb1⟩)
      | (go_at_call 49; refine (HB.out _ (hl3.new hb1) (by omega)).mono ?_; rintro e w2 ⟨rfl, hb⟩; have hb2 := New.call hb1 hb; clear hb))
  go_loopw [6, 7, 8] (fun v b i wr => ∃ k : Nat, k ≤ l.length ∧ i = .int .i64 k ∧ b = .bool (decide (p < k)) ∧ New W wr ∧ KI.Own wr W.heap.size v (stgI l x p k)) (fun _ _ i _ => l.length - (intOf i).toNat)
  case atStart => exact ⟨0, by omega, rfl, by simp, hb2, by rw [stgI_zero]; exact Kind.Own.nil⟩
  case round =>
    obtain ⟨k, hk, rfl, rfl, hr, hv⟩ := hrel
    have hlen := stgI_len l x p k hk
    by_cases hlt : k < l.length
    · by_cases hkp : p < k
      · have hst := Lib.hid (stgI_gt l x p k hlt hkp)
        obtain ⟨bhl2, ohl2, rfl, hbhl2, hchl2⟩ := hl2.2 (by omega)
        have hrhl2 : ∀ w', New W w' → ∀ k (hk : k < l.length), w'.cell? ⟨bhl2, ohl2 + k * 11, none⟩ = (itA l[k])[0]? := fun w' hw k hk => (hw.cell (p := ⟨bhl2, _, none⟩) hbhl2).trans (hchl2 k hk 0 (by decide))
        have hshl2 : ∀ w', New W w' → ∀ k (hk : k < l.length) j, j < 11 → w'.cell? ⟨bhl2, ohl2 + k * 11 + j, none⟩ = (itA l[k])[j]? := fun w' hw k hk j hj => (hw.cell (p := ⟨bhl2, _, none⟩) hbhl2).trans (hchl2 k hk j hj)
        clear hchl2
        generalize stgI l x p k = L at *
        have hd : decide (p < k) = true := by simpa using hkp
        go_wp2_with fail
        go_quiet (fail)
        have hr' : New W (wr.drewN nq) := below_drewN hr nq
        have hv' := hv.new (below_drewN (New.rfl' wr) nq)
        generalize wr.drewN nq = wq at *
        go_wp2_with (first
            | (at_builtin; refine Kind.wpList_append1 rfl _ _ rfl rfl (hv'.alloc _) l[k] wq.heap.size rfl (by go_simp) (by go_simp <;> rfl) (by omega) KI_b (by have := hr'.size; simp only [World.size_alloc]; omega) ?_; intro v' w2 hv2 _ hg))
        go_roundw
        case rel => exact ⟨k + 1, by omega, by go_num, by rw [decide_eq_true (show p < k + 1 by omega)], Kind.Own.grown (hr'.alloc' _) (hv'.alloc _) hg, by rw [hst.out]; exact hv2⟩
        case measure => simp [intOf]; omega
      · rcases Nat.lt_or_eq_of_le (Nat.le_of_not_lt hkp) with hkp2 | rfl
        · have hst := Lib.hid (stgI_lt l x p k hlt hkp2)
          have hc2 : ¬ x.1 < l[k].1 := by have := hbel.out k hlt hkp2; omega
          obtain ⟨bhl2, ohl2, rfl, hbhl2, hchl2⟩ := hl2.2 (by omega)
          have hrhl2 : ∀ w', New W w' → ∀ k (hk : k < l.length), w'.cell? ⟨bhl2, ohl2 + k * 11, none⟩ = (itA l[k])[0]? := fun w' hw k hk => (hw.cell (p := ⟨bhl2, _, none⟩) hbhl2).trans (hchl2 k hk 0 (by decide))
          have hshl2 : ∀ w', New W w' → ∀ k (hk : k < l.length) j, j < 11 → w'.cell? ⟨bhl2, ohl2 + k * 11 + j, none⟩ = (itA l[k])[j]? := fun w' hw k hk j hj => (hw.cell (p := ⟨bhl2, _, none⟩) hbhl2).trans (hchl2 k hk j hj)
          clear hchl2
          generalize stgI l x p k = L at *
          have hd : decide (p < k) = false := by simpa using hkp
          go_wp2_with fail
          go_quiet (fail)
          have hr' : New W (wr.drewN nq) := below_drewN hr nq
          have hv' := hv.new (below_drewN (New.rfl' wr) nq)
          generalize wr.drewN nq = wq at *
          go_wp2_with (first
            | (at_builtin; refine Kind.wpList_append1 rfl _ _ rfl rfl (hv'.alloc _) l[k] wq.heap.size rfl (by go_simp) (by go_simp <;> rfl) (by omega) KI_b (by have := hr'.size; simp only [World.size_alloc]; omega) ?_; intro v' w2 hv2 _ hg))
          go_roundw
          case rel => exact ⟨k + 1, by omega, by go_num, by rw [decide_eq_false (show ¬ p < k + 1 by omega)], Kind.Own.grown (hr'.alloc' _) (hv'.alloc _) hg, by rw [hst.out]; exact hv2⟩
          case measure => simp [intOf]; omega
        · have hst := Lib.hid (stgI_at l x k hlt)
          have hc2 : x.1 < l[k].1 := habo.out k hlt rfl
          obtain ⟨bhl2, ohl2, rfl, hbhl2, hchl2⟩ := hl2.2 (by omega)
          have hrhl2 : ∀ w', New W w' → ∀ k (hk : k < l.length), w'.cell? ⟨bhl2, ohl2 + k * 11, none⟩ = (itA l[k])[0]? := fun w' hw k hk => (hw.cell (p := ⟨bhl2, _, none⟩) hbhl2).trans (hchl2 k hk 0 (by decide))
          have hshl2 : ∀ w', New W w' → ∀ k (hk : k < l.length) j, j < 11 → w'.cell? ⟨bhl2, ohl2 + k * 11 + j, none⟩ = (itA l[k])[j]? := fun w' hw k hk j hj => (hw.cell (p := ⟨bhl2, _, none⟩) hbhl2).trans (hchl2 k hk j hj)
          clear hchl2
          generalize stgI l x k k = L at *
          go_wp2_with fail
          go_quiet (fail)
          have hr' : New W (wr.drewN nq) := below_drewN hr nq
          have hv' := hv.new (below_drewN (New.rfl' wr) nq)
          generalize wr.drewN nq = wq at *
          go_wp2_with (first
            | (at_builtin; refine Kind.wpList_append1 rfl _ _ rfl rfl (hv'.alloc _) x wq.heap.size rfl (by go_simp) (by go_simp <;> rfl) (by omega) KI_b (by have := hr'.size; simp only [World.size_alloc]; omega) ?_; intro v' w2 hv2 _ hg; have hr2 : New W w2 := Kind.Own.grown (hr'.alloc' _) (hv'.alloc _) hg; clear hg)
            | (at_builtin; refine Kind.wpList_append1 rfl _ _ rfl rfl (hv2.alloc _) l[k] w2.heap.size rfl (by go_simp) (by go_simp <;> rfl) (by simp; omega) KI_b (by have := hr2.size; simp only [World.size_alloc]; omega) ?_; intro v' w3 hv3 _ hg; have hr3 : New W w3 := Kind.Own.grown (hr2.alloc' _) (hv2.alloc _) hg; clear hg))
          go_roundw
          case rel => exact ⟨k + 1, by omega, by go_num, by rw [decide_eq_true (show k < k + 1 by omega)], hr3, by rw [hst.out]; exact hv3⟩
          case measure => simp [intOf]; omega
    · obtain rfl : k = l.length := by omega
      by_cases hkp : p < l.length
      · have hst := Lib.hid (stgI_end l x p hkp)
        have hd : decide (p < l.length) = true := by simpa using hkp
        generalize stgI l x p l.length = L at *
        go_wp2_with fail
        go_ret2
        exact ⟨_, rfl, by rw [← hst.out]; exact hv.lower hnW.size, hnW.call hr⟩
      · have hst := Lib.hid (stgI_last l x p (by omega))
        have hd : decide (p < l.length) = false := by simpa using hkp
        generalize stgI l x p l.length = L at *
        go_wp2_with (first
            | (at_builtin; refine Kind.wpList_append1 rfl _ _ rfl rfl (hv.alloc _) x wr.heap.size rfl (by go_simp) (by go_simp <;> rfl) (by omega) KI_b (by have := hr.size; simp only [World.size_alloc]; omega) ?_; intro v' w2 hv2 _ hg; have hr2 : New W w2 := Kind.Own.grown (hr.alloc' _) (hv.alloc _) hg; clear hg))
        go_ret2
        exact ⟨_, rfl, by rw [← hst.out]; exact hv2.lower hnW.size, hnW.call hr2⟩

/-! ### whole -/
theorem refAdd_any (A : Option Addr) (n c : Nat) (l : List It) (x : It) (w : World) (hl : KI.Rd w A n l) (hP : PosI l) (hn : n ≤ 140737488355328) :
    Calls Try.prog 13 #[.slice A n c, .agg (itA x)] w fun e w' => ∃ v, e = .returned (.tuple #[v, .int .i64 (addI l x).2]) ∧ KI.Own w' w.heap.size v (addI l x).1 ∧ New w w' := by
  unfold addI
  cases hm : mayI l
  · refine (refAdd_bad1 A n c l x w hl hn hP hm).mono ?_; rintro e w' ⟨rfl, hb⟩; exact ⟨_, rfl, Kind.Own.nil, hb⟩
  cases h1 : (x.1 == 0)
  case true => refine (refAdd_bad2 A n c l x w hl hn hP hm h1).mono ?_; rintro e w' ⟨rfl, hb⟩; exact ⟨_, rfl, Kind.Own.nil, hb⟩
  cases h2 : (x.2.1 == 0)
  case true => refine (refAdd_bad3 A n c l x w hl hn hP hm h1 h2).mono ?_; rintro e w' ⟨rfl, hb⟩; exact ⟨_, rfl, Kind.Own.nil, hb⟩
  cases h3 : hasI l x.1
  case true => refine (refAdd_twice A n c l x w hl hn hP hm h1 h2 h3).mono ?_; rintro e w' ⟨rfl, hb⟩; exact ⟨_, rfl, Kind.Own.nil, hb⟩
  by_cases h40 : l.length = 40
  · refine (refAdd_limit A n c l x w hl hn hP hm h1 h2 h3 (by omega)).mono ?_; rintro e w' ⟨rfl, hb⟩; simp only [h40]; exact ⟨_, rfl, Kind.Own.nil, hb⟩
  · refine (refAdd_ok A n c l x w hl hP hm h1 h2 h3 (by have := mayI_len l hm; omega)).mono ?_; rintro e w' ⟨v, rfl, hv, hb⟩; simp only [h40]; exact ⟨_, rfl, hv, hb⟩
theorem refChange_any (A : Option Addr) (n c : Nat) (l : List It) (x : It) (w : World) (hl : KI.Rd w A n l) (hP : PosI l) (hn : n ≤ 140737488355328) :
    Calls Try.prog 15 #[.slice A n c, .agg (itA x)] w fun e w' => ∃ v, e = .returned (.tuple #[v, .int .i64 (changeI l x).2]) ∧ KI.Own w' w.heap.size v (changeI l x).1 ∧ New w w' := by
  unfold changeI
  cases hm : mayI l
  · refine (refChange_bad1 A n c l x w hl hn hP hm).mono ?_; rintro e w' ⟨rfl, hb⟩; exact ⟨_, rfl, Kind.Own.nil, hb⟩
  cases h2 : (x.2.1 == 0)
  case true => refine (refChange_bad2 A n c l x w hl hn hP hm h2).mono ?_; rintro e w' ⟨rfl, hb⟩; exact ⟨_, rfl, Kind.Own.nil, hb⟩
  cases h3 : hasI l x.1
  · refine (refChange_none A n c l x w hl hn hP hm h2 h3).mono ?_; rintro e w' ⟨rfl, hb⟩; exact ⟨_, rfl, Kind.Own.nil, hb⟩
  · refine (refChange_ok A n c l x w hl hP hm h2 h3).mono ?_; rintro e w' ⟨v, rfl, hv, hb⟩; exact ⟨_, rfl, hv, hb⟩
theorem refDrop_any (A : Option Addr) (n c : Nat) (l : List It) (id : Int) (w : World) (hl : KI.Rd w A n l) (hc : n ≤ c) (hP : PosI l) (hn : n ≤ 140737488355328) :
    Calls Try.prog 17 #[.slice A n c, .int .u32 id] w fun e w' => ∃ v, e = .returned (.tuple #[v, .int .i64 (dropI l id).2]) ∧ KI.Own w' w.heap.size v (dropI l id).1 ∧ New w w' := by
  unfold dropI
  cases hm : mayI l
  · refine (refDrop_bad A n c l id w hl hn hP hm).mono ?_; rintro e w' ⟨rfl, hb⟩; exact ⟨_, rfl, Kind.Own.nil, hb⟩
  cases h3 : hasI l id
  · refine (refDrop_none A n c l id w hl hn hP hm h3).mono ?_; rintro e w' ⟨rfl, hb⟩; exact ⟨_, rfl, Kind.Own.nil, hb⟩
  · refine (refDrop_ok A n c l id w hl hc hP hm h3).mono ?_; rintro e w' ⟨v, rfl, hv, hb⟩; exact ⟨_, rfl, hv, hb⟩
end Go.Proofs.Ytkgebhmlogddcaa
/- The small functions of the law of layer 19: two, great, spoil, lives. -/
namespace Go.Proofs.Ytkgebhmlogddcaa
open Go.RowKit
set_option linter.unusedSimpArgs false
attribute [local go_sem] rowAt_alloc_at rowAt_alloc_past rowOk_alloc_at rowOk_alloc_past rowAt_drew rowOk_drew setRow_alloc_at setRow_alloc_past rowAt_setRow rowAt_setRow_far rowOk_setRow cell_rowOk frozen_rowOk setCell_rowOk setRow_setRow con_fold con_get con_size con_set set_all none8_cells equalIn_con storeCells_con
attribute [local go_sem] it_size it_0 it_1 it_2 it_3 it_4 it_5 it_6 it_7 it_8 it_9 it_10 it_set0 it_set1 it_set2 it_fold it_zero it_eta it_fill run_storeCells_it
attribute [local go_sem high] equalIn_it
attribute [local go_sem] run_storeCells_itp eqg_it

def L2 : List It := [(2, 1, 0, none8), (5, 3, 0, none8)]
set_option maxHeartbeats 400000 in
theorem two_any (w : World) : Calls Try.prog 46 #[] w fun e w' => ∃ v, e = .returned v ∧ KI.Own w' w.heap.size v L2 ∧ New w w' := by
  go_enter Try.func46, Try.ntmps46
  go_wp2
  go_ret
  refine ⟨_, rfl, ?_, (New.rfl' w).alloc' _⟩
  have h : ∀ cs : Array Value, cs.toList = KI.flat L2 → cs.size = 22 → KI.Own (w.alloc (Obj.cells cs KI.e)) w.heap.size (.slice (some ⟨w.heap.size, 0, none⟩) 2 2) L2 := by
    intro cs h1 h2
    have h3 := World.ownsRow_lit (base := w.heap.size) (e := KI.e) (size := 11) w cs 2 (Nat.le_refl _) (by decide) (by omega)
    rw [h1] at h3
    exact h3
  exact h _ (by kernel_rfl) (by kernel_rfl)

set_option maxHeartbeats 400000 in
theorem great_any (A : Option Addr) (n c : Nat) (w : World) : Calls Try.prog 10 #[.slice A n c] w fun e w' => e = .returned (.bool (decide (100 < n))) ∧ w = w' := by
  by_cases h : 100 < n
  · have h' : (100 : Int) < (n : Int) := by omega
    rw [decide_eq_true h]
    go_enter Try.func10, Try.ntmps10
    go_wp2
    go_ret
    exact ⟨rfl, rfl⟩
  · have h' : ¬ (100 : Int) < (n : Int) := by omega
    rw [decide_eq_false h]
    go_enter Try.func10, Try.ntmps10
    go_wp2
    go_ret
    exact ⟨rfl, rfl⟩

theorem grown_setRow (w : World) (g : Nat) (cs : Array Value) : w.grownBy (w.setRow g cs) (some g) :=
  ⟨rfl, rfl, rfl, by simp [size_setRow'], fun k _ hk => setRow_other w g k cs (fun e => hk (by rw [e]))⟩
/-- a row of the call's own stays where another one of its own is changed -/
theorem Kind.Own.past {α : Type} {K : Kind α} {W W1 : World} {b : Nat} {u v : Value} {l : List α} (hu : K.Own W b u l) (hg : W.grownBy W1 v.ownBlock) (hv : ∀ k, v.ownBlock = some k → k < b) : K.Own W1 b u l := by
  refine World.ownsRow.kept hu hg ?_
  cases hub : u.ownBlock with
  | none => exact Or.inl rfl
  | some g =>
    refine Or.inr fun e => ?_
    have h1 := hv g e.symm
    have h2 := (World.ownsRow.lt hu g hub).1
    omega
theorem Kind.Own.lt {α : Type} {K : Kind α} {W : World} {b : Nat} {u : Value} {l : List α} (hu : K.Own W b u l) : ∀ k, u.ownBlock = some k → k < W.heap.size := fun k hk => (World.ownsRow.lt hu k hk).2
set_option maxHeartbeats 800000 in
theorem spoil_any (v : Value) (l : List It) (base : Nat) (w : World) (hv : KI.Own w base v l) (hn : l.length ≤ 1048576) :
    Calls Try.prog 19 #[v] w fun e w' => (∃ u, e = .returned u) ∧ w.grownBy w' v.ownBlock := by
  obtain ⟨A, c, rfl, hc⟩ := hv.form
  go_enter Try.func19, Try.ntmps19
  go_wp2_with fail
  go_loopw [2] (fun i wr => ∃ k : Nat, k ≤ l.length ∧ i = .int .i64 k ∧ w.grownBy wr (Value.slice A l.length c).ownBlock ∧ ∃ l' : List It, l'.length = l.length ∧ KI.Own wr base (.slice A l.length c) l') (fun i _ => l.length - (intOf i).toNat)
  case atStart => exact ⟨0, by omega, rfl, ⟨rfl, rfl, rfl, Nat.le_refl _, fun _ _ _ => rfl⟩, l, rfl, hv⟩
  case round =>
    obtain ⟨k, hk, rfl, hg, l', hll, hv'⟩ := hrel
    by_cases hlt : k < l.length
    · obtain ⟨g, rfl, -, hg1, hg2, hg3⟩ := hv'.spot (by omega)
      have hg4 : k * 11 + 11 ≤ (rowAt wr g).size := by omega
      go_wp2_with fail
      go_roundw
      case rel =>
        refine ⟨k + 1, by omega, by go_num, hg.trans (grown_setRow wr g _), l'.set k (77, itZ.2), by rw [List.length_set]; exact hll, ?_⟩
        exact hv'.put (77, itZ.2) (by omega)
      case measure => simp [intOf]; omega
    · go_wp2_with fail
      go_end0
      exact ⟨⟨_, rfl⟩, hg⟩
end Go.Proofs.Ytkgebhmlogddcaa
/- clear of the end of a row of the call's own. No condition: helpers alone. -/
namespace Go.Proofs.Ytkgebhmlogddcaa
open Go.RowKit
namespace Kind
variable {α : Type} {K : Kind α}
theorem zeroCells_one {z : Array Value} (h : ∀ u ∈ z, u.oneCell' = true) (n : Nat) : ∀ u ∈ (Builtin.zeroCells z n).toList, u.oneCell' = true := by
  intro u hu
  simp only [Builtin.zeroCells, Array.toList_map, List.mem_map] at hu
  obtain ⟨i, hi, rfl⟩ := hu
  have hpos : 0 < z.size := by
    simp at hi
    exact Nat.pos_of_ne_zero fun e => by rw [e] at hi; simp at hi
  have hlt : i % z.size < z.size := Nat.mod_lt _ hpos
  rw [getElem!_pos z _ hlt]
  exact h _ (Array.getElem_mem hlt)
theorem run_clear {w : World} {base g n c i q e : Nat} {l : List α} (ty : TypeId) (hown : K.Own w base (.slice (some ⟨g, 0, none⟩) n c) l) (hi : i < l.length) (hq : q = l.length - i) (hz1 : ∀ u ∈ K.z.cells, u.oneCell' = true) :
    ∃ w', (Builtin.clear_ #[K.t] ty #[.slice (some ⟨g, i * K.sz, none⟩) q e]).run Try.prog w = .ok (.tuple #[]) w' ∧ K.Own w' base (.slice (some ⟨g, 0, none⟩) i c) (l.take i) ∧ w.grownBy w' (some g) := by
  rcases hown.2 with ⟨hv, _⟩ | ⟨g', cap, cur, hv, hb, hg, hnc, hcm, hcs, htake⟩
  · cases hv
  · injection hv with h1 h2 h3
    injection h1 with h1
    injection h1 with h1
    subst h1; subst h2; subst h3
    have hle : l.length * K.sz ≤ c * K.sz := Nat.mul_le_mul_right _ hnc
    have hqs : i * K.sz + q * K.sz = l.length * K.sz := by rw [← Nat.add_mul, hq]; congr 1; omega
    have hzs : (Builtin.zeroCells K.z.cells q).toList.length = q * K.sz := by rw [Array.length_toList, size_zeroCells, K.hzs]
    have hst := run_storeCells_at (P := Try.prog) g (i * K.sz) K.e (Builtin.zeroCells K.z.cells q).toList 0 cur w hg (by rw [hzs, hcs]; omega) (zeroCells_one hz1 q)
    rw [Nat.add_zero] at hst
    obtain ⟨cs2, hcs2, hst⟩ : ∃ cs2 : Array Value, cs2.toList = cur.toList.take (i * K.sz) ++ (Builtin.zeroCells K.z.cells q).toList ++ cur.toList.drop (i * K.sz + (Builtin.zeroCells K.z.cells q).toList.length) ∧
        (storeCells ⟨g, i * K.sz, none⟩ (Builtin.zeroCells K.z.cells q).toList).run Try.prog w = .ok () (w.setRow g cs2) := ⟨_, List.toList_toArray, hst⟩
    have hcl : cur.toList.length = c * K.sz := by rw [Array.length_toList, hcs]
    have hlen : (l.take i).length = i := by rw [List.length_take]; omega
    refine ⟨w.setRow g cs2, ?_, ⟨?_, .inr ⟨g, c, cs2, ?_, hb, setRow_heap w g cur _ _ _ hg, ?_, hcm, ?_, ?_⟩⟩, grown_setRow w g _⟩
    · obtain ⟨m, rfl⟩ : ∃ m, q = m + 1 := ⟨q - 1, by omega⟩
      simp only [Builtin.clear_]
      simp [run_underlying K.ht, zeroValue, typeInfo, K.hi, K.hz, hst]
    · rw [K.flat_length]
    · rw [hlen]
    · omega
    · rw [← Array.length_toList, hcs2]
      simp only [List.length_append, List.length_take, List.length_drop, hzs, hcl]
      omega
    · have hil : i * K.sz ≤ l.length * K.sz := by omega
      rw [hlen, hcs2, List.append_assoc, List.take_append_of_le_length (by rw [List.length_take, hcl]; omega), List.take_take, Nat.min_self]
      have e1 : cur.toList.take (i * K.sz) = (K.flat l).take (i * K.sz) := by rw [← htake, List.take_take, Nat.min_eq_left hil]
      have e2 : K.flat l = K.flat (l.take i) ++ K.flat (l.drop i) := by rw [← K.flat_append, List.take_append_drop]
      rw [e1, e2, List.take_append_of_le_length (by rw [K.flat_length, hlen]; omega), List.take_of_length_le (by rw [K.flat_length, hlen]; omega)]
end Kind
end Go.Proofs.Ytkgebhmlogddcaa
/- Contracts: slices.IndexFunc, slices.DeleteFunc at what was told; view.Drop. -/
namespace Go.Proofs.Ytkgebhmlogddcaa
open Go.RowKit
set_option linter.unusedSimpArgs false
attribute [local go_sem] rowAt_alloc_at rowAt_alloc_past rowOk_alloc_at rowOk_alloc_past rowAt_drew rowOk_drew setRow_alloc_at setRow_alloc_past rowAt_setRow rowAt_setRow_far rowOk_setRow cell_rowOk frozen_rowOk setCell_rowOk setRow_setRow con_fold con_get con_size con_set set_all none8_cells equalIn_con storeCells_con
attribute [local go_sem] it_size it_0 it_1 it_2 it_3 it_4 it_5 it_6 it_7 it_8 it_9 it_10 it_set0 it_set1 it_set2 it_fold it_zero it_eta it_fill run_storeCells_it
attribute [local go_sem] sn_size sn_0 sn_1 sn_set0 sn_set1 sn_fold sn_eta sn_fill run_storeCells_sn eqg_sn eqg_it
attribute [local go_sem high] equalIn_sn equalIn_it

/-- where something first holds, or -1 -/
def idxP (l : List Sn) (p : Sn → Bool) : Int := if l.any p then (l.findIdx p : Nat) else -1
theorem idxP_at (l : List Sn) (p : Sn → Bool) (k : Nat) (hk : k < l.length) (h : p l[k] = true) (hq : ∀ q, (h : q < l.length) → q < k → Hid (p l[q] = false)) : idxP l p = k := by
  rw [idxP, if_pos (List.any_eq_true.2 ⟨_, List.getElem_mem hk, h⟩), (List.findIdx_eq hk).2 ⟨h, fun j hj => by simpa using (hq j (by omega) hj).out⟩]
theorem idxP_no (l : List Sn) (p : Sn → Bool) (hq : ∀ q, (h : q < l.length) → Hid (p l[q] = false)) : idxP l p = -1 := by
  rw [idxP, if_neg]
  rw [List.any_eq_true]
  rintro ⟨x, hx, e⟩
  obtain ⟨q, hq2, rfl⟩ := List.getElem_of_mem hx
  rw [(hq q hq2).out] at e; cases e
set_option maxHeartbeats 800000 in
theorem indexF_any (A : Option Addr) (n c : Nat) (l : List Sn) (g : FuncId) (cap : Value) (p : Sn → Bool) (w0 w : World) (hl : KS.Rd w A n l) (hn : n ≤ 140737488355328) (h0 : New w0 w)
    (hcall : ∀ args w', (callFunc g args).run Try.prog w' = .ok (.enter g args) w') (hp : ∀ x w', New w0 w' → Calls Try.prog g #[.agg (snA x), cap] w' fun e w'' => e = .returned (.bool (p x)) ∧ New w' w'') :
    Calls Try.prog 81 #[.slice A n c, .func (.func g) #[] #[cap]] w fun e w' => e = .returned (.int .i64 (idxP l p)) ∧ New w w' := by
  obtain rfl : l.length = n := hl.1
  have HP := Lib.hid hp
  clear hp
  go_enter Try.func81, Try.ntmps81
  have hwA := fun w' (h : New w w') n hn => rowAt_below h n hn
  have hwO := fun w' (h : New w w') n hn => rowOk_below h n hn
  have hwS := fun w' (h : New w w') n (hn : n < w.heap.size) => eq_true (Nat.lt_of_lt_of_le hn h.size)
  go_wp2_with fail
  go_loopw [8] (fun i wr => ∃ k : Nat, k ≤ l.length ∧ i = .int .i64 k ∧ New w wr ∧ ∀ q, (h : q < l.length) → q < k → Hid (p l[q] = false)) (fun i _ => l.length - (intOf i).toNat)
  case atStart => exact ⟨0, by omega, rfl, New.rfl' w, fun _ _ h => absurd h (by omega)⟩
  case round =>
    obtain ⟨k, hk, rfl, hr, hq⟩ := hrel
    by_cases hlt : k < l.length
    · skip
      obtain ⟨bhl, ohl, rfl, hbhl, hchl⟩ := hl.2 (by omega)
      have hrhl : ∀ w', New w w' → ∀ k (hk : k < l.length), w'.cell? ⟨bhl, ohl + k * 2, none⟩ = (snA l[k])[0]? := fun w' hw k hk => (hw.cell (p := ⟨bhl, _, none⟩) hbhl).trans (hchl k hk 0 (by decide))
      have hshl : ∀ w', New w w' → ∀ k (hk : k < l.length) j, j < 2 → w'.cell? ⟨bhl, ohl + k * 2 + j, none⟩ = (snA l[k])[j]? := fun w' hw k hk j hj => (hw.cell (p := ⟨bhl, _, none⟩) hbhl).trans (hchl k hk j hj)
      clear hchl
      go_wp2_with fail
      refine (HP.out _ _ (h0.call hr)).mono ?_
      rintro e w1 ⟨rfl, hb⟩
      have hr2 := hr.call hb
      clear hb
      generalize hpk : p l[k] = pk at *
      have Hpk := Lib.hid hpk
      clear hpk
      cases pk
      · go_wp2_with fail
        go_roundw
        case rel => exact ⟨k + 1, by omega, by go_num, hr2, fun q h h2 => by
          rcases Nat.lt_succ_iff_lt_or_eq.1 h2 with h3 | rfl
          · exact hq q h h3
          · exact Hpk⟩
        case measure => simp [intOf]; omega
      · go_wp2_with fail
        go_ret
        exact ⟨by rw [idxP_at l p k hlt Hpk.out hq]; rfl, hr2⟩
    · go_wp2_with fail
      go_ret
      exact ⟨by rw [idxP_no l p fun q h => hq q h (by omega)]; rfl, hr⟩

theorem run_storeCells_snp (w : World) (g p : Nat) (x : Sn) (h : rowOk w g = true) (hs : p * 2 + 2 ≤ (rowAt w g).size) :
    (storeCells ⟨g, p * 2, none⟩ (snA x).toList).run Try.prog w = .ok () (w.setRow g (KS.putK (rowAt w g) p x)) := Kind.run_storeCells_k KS w g p x h hs
theorem snz_one : ∀ u ∈ KS.z.cells, u.oneCell' = true := by
  have h1 : Try.prog.info? KS.e = some KS.i := KS.hi
  have h2 : KS.i.zero = some KS.z := KS.hz
  have h3 : (Try.prog.info? 68).bind (·.zero) = some (.agg (snA (0, 0))) := by kernel_rfl
  rw [← KS_e, h1] at h3
  have h4 : KS.i.zero = some (.agg (snA (0, 0))) := h3
  rw [h2] at h4
  injection h4 with h4
  rw [h4]
  intro u hu
  simp [Value.cells, snA] at hu
  rcases hu with rfl | rfl <;> rfl

theorem del_keep (l m : List Sn) (p : Sn → Bool) (a b : Nat) (hb : b < l.length) (hml : m.length = l.length) (hab : a < b) (h1 : m.take a = (l.take b).filter fun x => !p x) (h2 : m.drop b = l.drop b) (hp : p m[b] = false) :
    (m.set a m[b]).take (a + 1) = (l.take (b + 1)).filter (fun x => !p x) ∧ (m.set a m[b]).drop (b + 1) = l.drop (b + 1) := by
  have e : m[b] = l[b] := by
    have h3 : (m.drop b)[0]? = (l.drop b)[0]? := by rw [h2]
    simpa [hb, hml] using h3
  constructor
  · rw [List.take_succ_eq_append_getElem (by rw [List.length_set]; omega), List.take_set_of_le (Nat.le_refl _), h1, filter_step _ l b hb]
    simp [← e, hp]
  · rw [List.drop_set_of_lt (by omega)]
    have := congrArg (List.drop 1) h2
    simpa [List.drop_drop, Nat.add_comm] using this
theorem del_skip (l m : List Sn) (p : Sn → Bool) (a b : Nat) (hb : b < l.length) (hml : m.length = l.length) (h1 : m.take a = (l.take b).filter fun x => !p x) (h2 : m.drop b = l.drop b) (hp : p m[b]! = true) :
    m.take a = (l.take (b + 1)).filter (fun x => !p x) ∧ m.drop (b + 1) = l.drop (b + 1) := by
  have e : m[b]! = l[b] := by
    have h3 : (m.drop b)[0]? = (l.drop b)[0]? := by rw [h2]
    simpa [hb, hml] using h3
  constructor
  · rw [h1, filter_step _ l b hb, ← e, hp]; simp
  · have := congrArg (List.drop 1) h2
    simpa [List.drop_drop, Nat.add_comm] using this
end Go.Proofs.Ytkgebhmlogddcaa
/- Contracts: slices.DeleteFunc at what was told; view.Drop. -/
namespace Go.Proofs.Ytkgebhmlogddcaa
open Go.RowKit
set_option linter.unusedSimpArgs false
attribute [local go_sem] rowAt_alloc_at rowAt_alloc_past rowOk_alloc_at rowOk_alloc_past rowAt_drew rowOk_drew setRow_alloc_at setRow_alloc_past rowAt_setRow rowAt_setRow_far rowOk_setRow cell_rowOk frozen_rowOk setCell_rowOk setRow_setRow con_fold con_get con_size con_set set_all none8_cells equalIn_con storeCells_con
attribute [local go_sem] it_size it_0 it_1 it_2 it_3 it_4 it_5 it_6 it_7 it_8 it_9 it_10 it_set0 it_set1 it_set2 it_fold it_zero it_eta it_fill run_storeCells_it
attribute [local go_sem] sn_size sn_0 sn_1 sn_set0 sn_set1 sn_fold sn_eta sn_fill run_storeCells_sn eqg_sn eqg_it
attribute [local go_sem high] equalIn_sn equalIn_it
attribute [local go_sem] run_storeCells_snp

theorem own_cells {w : World} {base n c g : Nat} {m : List Sn} (h : KS.Own w base (.slice (some ⟨g, 0, none⟩) n c) m) (k : Nat) (hk : k < m.length) :
    ∀ w', New w w' → w'.cell? ⟨g, k * 2, none⟩ = some (.int .u32 m[k].1) ∧ w'.cell? ⟨g, k * 2 + 1, none⟩ = some (.int .u64 m[k].2) := by
  obtain ⟨hr, _⟩ := Kind.Rd.of_own h
  obtain ⟨b, o, e, hb, hc⟩ := hr.2 (by have := hr.1; omega)
  injection e with e
  injection e with e1 e2
  subst e1; subst e2
  intro w' hw
  have c0 := hc k hk 0 (by decide)
  have c1 := hc k hk 1 (by decide)
  rw [KS_sz, KS_enc, Nat.zero_add] at c0 c1
  exact ⟨(hw.cell (p := ⟨g, _, none⟩) hb).trans c0, (hw.cell (p := ⟨g, _, none⟩) hb).trans c1⟩

theorem wpList_clearS {ops : Array Oper} {rest : List Oper} {o : Oper} {ac : Act} {w : World} {Q : Exit → Act → World → Prop} {base g n c i q e : Nat} {l : List Sn} (hgd : o.guard = none) (x : Operand)
    (ho : o.op = .call { callee := .builtin .clear, args := #[x], argTypes := #[KS.t] }) (hx : ac.eval x = .slice (some ⟨g, i * 2, none⟩) q e) (hown : KS.Own w base (.slice (some ⟨g, 0, none⟩) n c) l) (hi : i < l.length) (hq : q = l.length - i)
    (h : ∀ w', KS.Own w' base (.slice (some ⟨g, 0, none⟩) i c) (l.take i) → w.grownBy w' (some g) → wpList Try.prog ops Q rest (ac.put o.dst (.tuple #[])) w') : wpList Try.prog ops Q (o :: rest) ac w := by
  obtain ⟨w', hrun, h2, h3⟩ := Kind.run_clear (e := e) o.type hown hi hq snz_one
  rw [KS_sz] at hrun
  refine wpList_plain hgd fun _ hK => ?_
  unfold Oper.wp execOp
  simp only [ho, resolve, invoke, builtin, Sem.run_bind, Sem.run_pure, Result.andThen_ok, List.map_toArray, List.map_cons, List.map_nil, hx, hrun]
  exact hK _ _ (h w' h2 h3)

set_option maxHeartbeats 1600000 in
set_option maxRecDepth 100000 in
theorem deleteF_any (v : Value) (l : List Sn) (g : FuncId) (cap : Value) (p : Sn → Bool) (w0 w : World) (base : Nat) (hv : KS.Own w base v l) (hn : l.length ≤ 1000) (h0 : New w0 w) (hbase : w0.heap.size ≤ base)
    (hcall : ∀ args w', (callFunc g args).run Try.prog w' = .ok (.enter g args) w') (hp : ∀ x w', New w0 w' → Calls Try.prog g #[.agg (snA x), cap] w' fun e w'' => e = .returned (.bool (p x)) ∧ New w' w'') :
    Calls Try.prog 65 #[v, .func (.func g) #[] #[cap]] w fun e w' => ∃ v', e = .returned v' ∧ KS.Own w' base v' (l.filter fun x => !p x) ∧ New w0 w' := by
  obtain ⟨A, c, rfl, hc, hrd⟩ := hv.rd
  have HP := Lib.hid hp
  have HX := Lib.hid (indexF_any A l.length c l g cap p w0 w hrd (by omega) h0 hcall hp)
  clear hp
  by_cases ha : l.any p = true
  · have hi : l.findIdx p < l.length := List.findIdx_lt_length.2 (by simpa [List.any_eq_true] using ha)
    have hX := HX.out
    rw [idxP, if_pos ha] at hX
    have HX := Lib.hid hX
    have hne : (((l.findIdx p : Nat) : Int) == -1) = false := by simp
    generalize hii : l.findIdx p = i at *
    obtain ⟨gg, rfl, -, hlc, hg1, hg2, hg3⟩ := hv.spotK (by omega)
    go_enter Try.func65, Try.ntmps65
    go_wp2_with (first | (go_at_call 81; refine HX.out.mono ?_; rintro e w1 ⟨rfl, hb1⟩))
    have hv1 := hv.new hb1
    have h01 := h0.call hb1
    have hin : l.take i = (l.take i).filter fun x => !p x := by
      symm
      rw [List.filter_eq_self]
      intro x hx
      obtain ⟨q, hq, rfl⟩ := List.getElem_of_mem hx
      simp only [List.length_take] at hq
      rw [List.getElem_take]
      have := List.not_of_lt_findIdx (p := p) (xs := l) (i := q) (by omega)
      simpa using this
    have hpi : p l[i] = true := by subst hii; exact List.findIdx_getElem
    have hin2 : l.take i = (l.take (i + 1)).filter fun x => !p x := by
      rw [filter_step _ l i hi, ← hin, hpi]; simp
    clear HX hX hii hin hpi
    have iw : IntKind.i64.wrap ((i : Int) + 1) = (i : Int) + 1 := by rw [IntKind.wrap_i64]; omega
    go_wp2_with fail
    go_loopw [5, 6] (fun a b wr => ∃ (a' b' : Nat) (m : List Sn), a = .int .i64 a' ∧ b = .int .i64 b' ∧ a' < b' ∧ b' ≤ l.length ∧ m.length = l.length ∧ m.take a' = (l.take b').filter (fun x => !p x) ∧ m.drop b' = l.drop b' ∧ New w0 wr ∧ KS.Own wr base (.slice (some ⟨gg, 0, none⟩) l.length c) m) (fun _ b _ => l.length - (intOf b).toNat)
    case atStart => exact ⟨i, i + 1, l, rfl, by go_num, by omega, by omega, rfl, hin2, rfl, h01, hv1⟩
    case round =>
      obtain ⟨a, b, m, rfl, rfl, hab, hbl, hml, h1, h2, hr, hvm⟩ := hrel
      by_cases hlt : b < l.length
      · have hc0 := fun w' hw => (own_cells hvm b (by omega) w' hw).1
        have hc1 := fun w' hw => (own_cells hvm b (by omega) w' hw).2
        have hrw := New.rfl' wr
        have hbm : b < m.length := by omega
        have hkeep := Lib.hid (del_keep l m p a b hlt hml hab h1 h2)
        have hskip := Lib.hid (del_skip l m p a b hlt hml h1 h2)
        clear h1 h2 hin2
        go_wp2_with fail
        refine (HP.out _ _ (hr.alloc' _)).mono ?_
        rintro e w2 ⟨rfl, hb⟩
        have hA1 := rowAt_below hb wr.heap.size (by simp)
        have hO1 := rowOk_below hb wr.heap.size (by simp)
        simp only [rowAt_alloc_at _ _ _ _ rfl, rowOk_alloc_at _ _ _ _ rfl] at hA1 hO1
        have hv2 := (hvm.alloc _).new hb
        have hr2 := (hr.alloc' _).call hb
        have hz2 := hb.size
        simp only [World.size_alloc] at hz2
        clear hb
        obtain ⟨g2, eg, -, _, hg21, hg22, hg23⟩ := hv2.spotK (by omega)
        injection eg with eg
        injection eg with eg
        subst eg
        have hg24 : a * 2 + 2 ≤ (rowAt w2 gg).size := by rw [hg23, KS_sz]; omega
        clear hg23 hg3
        generalize hpk : p m[b] = pk at *
        have Hpk := Lib.hid hpk
        clear hpk
        cases pk
        · go_wp2_with fail
          go_roundw
          case rel =>
            obtain ⟨e1, e2⟩ := hkeep.out trivial
            exact ⟨a + 1, b + 1, m.set a m[b], by go_num, by go_num, by omega, by omega, by rw [List.length_set]; exact hml, e1, e2, hr2.row _ _ (by omega), hv2.putK m[b] (by omega)⟩
          case measure => simp [intOf]; omega
        · go_wp2_with fail
          go_roundw
          case rel =>
            obtain ⟨e1, e2⟩ := hskip.out (by rw [getElem!_pos m b hbm]; exact Hpk.out)
            exact ⟨a, b + 1, m, rfl, by go_num, by omega, by omega, hml, e1, e2, hr2, hv2⟩
          case measure => simp [intOf]; omega
      · obtain rfl : b = l.length := by omega
        have hres : m.take a = l.filter fun x => !p x := by rw [h1, List.take_of_length_le (Nat.le_refl _)]
        have Hres := Lib.hid hres
        have hca : ¬ c = a := by omega
        have i1 : (a : Int) ≤ (l.length : Int) := by omega
        have i2 : (a : Int) ≤ (c : Int) := by omega
        have i3 : (l.length : Int) ≤ (c : Int) := by omega
        clear hres h1 h2 hin2 hg3
        go_wp2_with (first
          | (refine wpList_clearS rfl _ rfl rfl hvm (i := a) (by omega) (by omega) ?_; intro w5 hv5 hg5; have hr5 := Kind.Own.grown hr (hvm.lower hbase) hg5))
        go_ret
        exact ⟨_, rfl, by rw [← Hres.out]; exact hv5, hr5⟩
  · have hall : l.filter (fun x => !p x) = l := by
      rw [List.filter_eq_self]
      intro x hx
      have : ¬ p x = true := fun e => ha (List.any_eq_true.2 ⟨x, hx, e⟩)
      simpa using this
    rw [hall]
    have hX := HX.out
    rw [idxP, if_neg ha] at hX
    have HX := Lib.hid hX
    clear hX ha hall
    go_enter Try.func65, Try.ntmps65
    go_wp2_with (first | (go_at_call 81; refine HX.out.mono ?_; rintro e w1 ⟨rfl, hb1⟩))
    go_ret
    exact ⟨_, rfl, hv.new hb1, h0.call hb1⟩
end Go.Proofs.Ytkgebhmlogddcaa
/- Contracts: view.Drop. -/
namespace Go.Proofs.Ytkgebhmlogddcaa
open Go.RowKit
set_option linter.unusedSimpArgs false
attribute [local go_sem] rowAt_alloc_at rowAt_alloc_past rowOk_alloc_at rowOk_alloc_past rowAt_drew rowOk_drew setRow_alloc_at setRow_alloc_past rowAt_setRow rowAt_setRow_far rowOk_setRow cell_rowOk frozen_rowOk setCell_rowOk setRow_setRow con_fold con_get con_size con_set set_all none8_cells equalIn_con storeCells_con
attribute [local go_sem] it_size it_0 it_1 it_2 it_3 it_4 it_5 it_6 it_7 it_8 it_9 it_10 it_set0 it_set1 it_set2 it_fold it_zero it_eta it_fill run_storeCells_it
attribute [local go_sem] sn_size sn_0 sn_1 sn_set0 sn_set1 sn_fold sn_eta sn_fill run_storeCells_sn eqg_sn eqg_it
attribute [local go_sem high] equalIn_sn equalIn_it

set_option maxHeartbeats 400000 in
theorem vdrop1_any (x : Sn) (g : Nat) (id : Int) (w : World) (hok : rowOk w g = true) (hg : rowAt w g = #[.int .u32 id]) :
    Calls Try.prog 66 #[.agg (snA x), .pointer (some ⟨g, 0, none⟩)] w fun e w' => e = .returned (.bool (x.1 == id)) ∧ New w w' := by
  have hlt := rowOk_lt w hok
  go_enter Try.func66, Try.ntmps66
  go_wp2
  go_ret
  exact ⟨rfl, (New.rfl' w).alloc' _⟩
theorem call_vdrop1 (args : Array Value) (w : World) : (callFunc 66 args).run Try.prog w = .ok (.enter 66 args) w := call_go Try.func66 (by kernel_rfl) (by kernel_rfl) args w
set_option maxHeartbeats 800000 in
theorem vdrop_any (A : Option Addr) (n c : Nat) (l : List Sn) (id : Int) (w : World) (hl : KS.Rd w A n l) (hn : n ≤ 1000) :
    Calls Try.prog 41 #[.slice A n c, .int .u32 id] w fun e w' => ∃ v, e = .returned v ∧ KS.Own w' w.heap.size v (dropS l id) ∧ New w w' := by
  obtain rfl : l.length = n := hl.1
  have hA1 := vmay_any A l.length c l
  rcases Bool.eq_false_or_eq_true (risS 0 l) with hm | hm
  · have hd : dropS l id = l.filter fun x => !(x.1 == id) := by simp [dropS, hm]; rfl
    rw [hm] at hA1
    have HA := Lib.hid hA1
    rw [hd]
    clear hA1 hm hd
    go_enter Try.func41, Try.ntmps41
    go_wp2_with fail
    have hnW : New w (w.alloc (Obj.cells (#[.int .u32 id]) 23)) := (New.rfl' w).alloc' _
    generalize hW : (w.alloc (Obj.cells (#[.int .u32 id]) 23)) = W at *
    have hWz0 : w.heap.size < W.heap.size := by rw [← hW]; simp only [World.size_alloc]; omega
    have hWa0 : rowAt W (w.heap.size) = #[.int .u32 id] := by rw [← hW]; simp [go_sem]
    have hWo0 : rowOk W (w.heap.size) = true := by rw [← hW]; simp [go_sem]
    clear hW
    have hWA := fun w' (h : New W w') n hn => rowAt_below h n hn
    have hWO := fun w' (h : New W w') n hn => rowOk_below h n hn
    have hWS := fun w' (h : New W w') n (hn : n < W.heap.size) => eq_true (Nat.lt_of_lt_of_le hn h.size)
    have hl2 := hl.new hnW
    go_wp2_with (first
      | (go_at_call 42; refine (HA.out _ hl2 (by omega)).mono ?_; rintro e w1 ⟨rfl, hb1⟩)
      | (go_at_call 57; refine (cloneS_any _ _ _ l _ (hl2.new hb1) hn).mono ?_; rintro e w2 ⟨v, rfl, hv, hb⟩; have hb2 := New.call hb1 hb; clear hb)
      | (go_at_call 65; refine (deleteF_any v l 66 _ (fun x => x.1 == id) W _ _ hv hn hb2 hb1.size call_vdrop1 (fun x w' h => vdrop1_any x w.heap.size id w' (by rw [hWO w' h _ hWz0, hWo0]) (by rw [hWA w' h _ hWz0, hWa0]))).mono ?_; rintro e w3 ⟨v3, rfl, hv3, hb3⟩))
    go_ret
    exact ⟨_, rfl, hv3.lower (by have := hb1.size; have := hnW.size; omega), hnW.call hb3⟩
  · have hd : dropS l id = [] := by simp [dropS, hm]
    rw [hm] at hA1
    have HA := Lib.hid hA1
    rw [hd]
    clear hA1 hm hd
    go_enter Try.func41, Try.ntmps41
    go_wp2_with fail
    have hnW : New w (w.alloc (Obj.cells (#[.int .u32 id]) 23)) := (New.rfl' w).alloc' _
    generalize hW : (w.alloc (Obj.cells (#[.int .u32 id]) 23)) = W at *
    have hWz0 : w.heap.size < W.heap.size := by rw [← hW]; simp only [World.size_alloc]; omega
    have hWa0 : rowAt W (w.heap.size) = #[.int .u32 id] := by rw [← hW]; simp [go_sem]
    have hWo0 : rowOk W (w.heap.size) = true := by rw [← hW]; simp [go_sem]
    clear hW
    have hWA := fun w' (h : New W w') n hn => rowAt_below h n hn
    have hWO := fun w' (h : New W w') n hn => rowOk_below h n hn
    have hWS := fun w' (h : New W w') n (hn : n < W.heap.size) => eq_true (Nat.lt_of_lt_of_le hn h.size)
    have hl2 := hl.new hnW
    go_wp2_with (first
      | (go_at_call 42; refine (HA.out _ hl2 (by omega)).mono ?_; rintro e w1 ⟨rfl, hb1⟩))
    go_ret
    exact ⟨_, rfl, Kind.Own.nil, hnW.call hb1⟩
end Go.Proofs.Ytkgebhmlogddcaa
/- copy into a row of the call's own, elements of any kind. No condition: helpers alone. -/
namespace Go.Proofs.Ytkgebhmlogddcaa
open Go.RowKit
namespace Kind
variable {α : Type} {K : Kind α}
theorem flat_splice (m s : List α) (i : Nat) (hi : i + s.length ≤ m.length) : (K.flat m).take (i * K.sz) ++ K.flat s ++ (K.flat m).drop (i * K.sz + s.length * K.sz) = K.flat (m.take i ++ s ++ m.drop (i + s.length)) := by
  have h1 : (K.flat (m.take i)).length = i * K.sz := by rw [K.flat_length, List.length_take, show min i m.length = i by omega]
  have h2 : (K.flat (m.take (i + s.length))).length = i * K.sz + s.length * K.sz := by rw [K.flat_length, List.length_take, show min (i + s.length) m.length = i + s.length by omega, Nat.add_mul]
  have e1 : K.flat m = K.flat (m.take i) ++ K.flat (m.drop i) := by rw [← K.flat_append, List.take_append_drop]
  have e2 : K.flat m = K.flat (m.take (i + s.length)) ++ K.flat (m.drop (i + s.length)) := by rw [← K.flat_append, List.take_append_drop]
  have f1 : (K.flat m).take (i * K.sz) = K.flat (m.take i) := by rw [e1, List.take_append_of_le_length (by omega), List.take_of_length_le (by omega)]
  have f2 : (K.flat m).drop (i * K.sz + s.length * K.sz) = K.flat (m.drop (i + s.length)) := by
    rw [e2, List.drop_append, List.drop_of_length_le (by omega), List.nil_append, h2]; simp
  rw [f1, f2, K.flat_append, K.flat_append]
theorem run_copyK {w : World} {base g n c i dn dc sn sc k : Nat} {sp : Option Addr} {m src : List α} (ty : TypeId) (hown : K.Own w base (.slice (some ⟨g, 0, none⟩) n c) m) (hr : K.Rd w sp sn src) (hk : k = Nat.min sn dn) (hfit : i + k ≤ m.length) :
    ∃ w', (Builtin.copy_ #[K.t, K.t] ty #[.slice (some ⟨g, i * K.sz, none⟩) dn dc, .slice sp sn sc]).run Try.prog w = .ok (goInt k) w' ∧ K.Own w' base (.slice (some ⟨g, 0, none⟩) n c) (m.take i ++ src.take k ++ m.drop (i + k)) ∧ w.grownBy w' (some g) := by
  have hsl := hr.1
  have hkn : k ≤ sn := by rw [hk]; exact Nat.min_le_left _ _
  have htl : (src.take k).length = k := by rw [List.length_take]; omega
  cases sp with
  | none =>
    have hs0 : src = [] := by
      cases src with
      | nil => rfl
      | cons x m => obtain ⟨b, o, h, _⟩ := hr.2 (by simp at hsl; omega); cases h
    subst hs0
    have h0 : sn = 0 := by simpa using hsl.symm
    subst h0
    have k0 : k = 0 := by omega
    subst k0
    refine ⟨w, ?_, by simpa using hown, ⟨rfl, rfl, rfl, Nat.le_refl _, fun _ _ _ => rfl⟩⟩
    simp [Builtin.copy_, run_underlying K.ht, sizeOf, typeInfo, K.hi, Builtin.lenOf, Builtin.firstCells, storeCells]
  | some ad =>
    rcases hown.2 with ⟨hv, _⟩ | ⟨g', cap, cur, hv, hb, hg, hnc, hcm, hcs, htake⟩
    · cases hv
    · injection hv with h1 h2 h3
      injection h1 with h1
      injection h1 with h1
      subst h1; subst h2; subst h3
      have hkd : k * K.sz ≤ m.length * K.sz := Nat.mul_le_mul_right _ (by omega)
      have hle : m.length * K.sz ≤ c * K.sz := Nat.mul_le_mul_right _ hnc
      have hik : i * K.sz + k * K.sz ≤ m.length * K.sz := by rw [← Nat.add_mul]; exact Nat.mul_le_mul_right _ hfit
      have hfl : (K.flat (src.take k)).length = k * K.sz := by rw [K.flat_length, htl]
      have hsrc : ∀ j u, (K.flat (src.take k))[j]? = some u → w.cell? (ad.add j) = some u := by
        intro j u hu
        have hj : j < k * K.sz := by rw [← hfl]; exact (List.getElem?_eq_some_iff.1 hu).1
        have hk0 : 0 < k := by
          rcases Nat.eq_zero_or_pos k with h | h
          · subst h; simp at hj
          · exact h
        obtain ⟨b, o, hh, hbb, hcell⟩ := hr.2 (by omega)
        injection hh with hh
        subst hh
        have hdm : j / K.sz < k := (Nat.div_lt_iff_lt_mul K.pos).2 hj
        have hmod : j % K.sz < K.sz := Nat.mod_lt _ K.pos
        have he : j / K.sz * K.sz + j % K.sz = j := by rw [Nat.mul_comm]; exact Nat.div_add_mod j K.sz
        have hc2 := hcell (j / K.sz) (by omega) (j % K.sz) hmod
        have hg2 := K.flat_get (src.take k) (j / K.sz) (j % K.sz) (by omega) hmod
        rw [he, hu, List.getElem_take] at hg2
        rw [Nat.add_assoc, he, ← hg2] at hc2
        have hadd : (⟨b, o, none⟩ : Addr).add j = ⟨b, o + j, none⟩ := by unfold Addr.add; split <;> simp_all
        rw [hadd]; exact hc2
      have hfc := run_firstCells_some (P := Try.prog) w K.sz k ad sn sc (K.flat (src.take k)) hfl hsrc
      have hst := run_storeCells_at (P := Try.prog) g (i * K.sz) K.e (K.flat (src.take k)) 0 cur w hg (by rw [hfl, hcs]; omega) (K.flat_one' _)
      rw [Nat.add_zero] at hst
      obtain ⟨cs2, hcs2, hst⟩ : ∃ cs2 : Array Value, cs2.toList = cur.toList.take (i * K.sz) ++ K.flat (src.take k) ++ cur.toList.drop (i * K.sz + (K.flat (src.take k)).length) ∧
          (storeCells ⟨g, i * K.sz, none⟩ (K.flat (src.take k))).run Try.prog w = .ok () (w.setRow g cs2) := ⟨_, List.toList_toArray, hst⟩
      have hcl : cur.toList.length = c * K.sz := by rw [Array.length_toList, hcs]
      have hll : (m.take i ++ src.take k ++ m.drop (i + k)).length = m.length := by simp only [List.length_append, List.length_take, List.length_drop]; omega
      refine ⟨w.setRow g cs2, ?_, ⟨?_, .inr ⟨g, c, cs2, ?_, hb, setRow_heap w g cur _ _ _ hg, ?_, hcm, ?_, ?_⟩⟩, grown_setRow w g _⟩
      · rw [← K.hs] at hfc
        simp [Builtin.copy_, run_underlying K.ht, sizeOf, typeInfo, K.hi, Builtin.lenOf, ← hk, hfc, hst]
      · rw [K.flat_length]
      · rw [hll]
      · rw [hll]; exact hnc
      · rw [← Array.length_toList, hcs2]
        simp only [List.length_append, List.length_take, List.length_drop, hfl, hcl]
        omega
      · rw [hll, hcs2, hfl]
        have hsg := seg_take cur.toList (K.flat (src.take k)) (i * K.sz) (m.length * K.sz) (by rw [hfl]; exact hik) (by rw [hcl]; exact hle)
        rw [hfl] at hsg
        rw [hsg, htake]
        have hsp := flat_splice (K := K) m (src.take k) i (by omega)
        rw [htl] at hsp
        exact hsp
end Kind
end Go.Proofs.Ytkgebhmlogddcaa
