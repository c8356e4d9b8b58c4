/- Contracts of the layer view and of its reference: the Seq of an Id; May, Of, Drop, Same of the reference. -/
import Derived.Test.YtkgebhmlogddcaaView
import Derived.Test.YtkgebhmlogddcaaItemRef3
namespace Go.Proofs.Ytkgebhmlogddcaa
open Go.RowKit
set_option linter.unusedSimpArgs false
attribute [local go_sem] rowAt_alloc_at rowAt_alloc_past rowOk_alloc_at rowOk_alloc_past rowAt_drew rowOk_drew setRow_alloc_at setRow_alloc_past rowAt_setRow rowAt_setRow_far rowOk_setRow cell_rowOk frozen_rowOk setCell_rowOk setRow_setRow con_fold con_get con_size con_set set_all none8_cells equalIn_con storeCells_con
attribute [local go_sem] it_size it_0 it_1 it_2 it_3 it_4 it_5 it_6 it_7 it_8 it_9 it_10 it_set0 it_set1 it_set2 it_fold it_zero it_eta it_fill run_storeCells_it
attribute [local go_sem] sn_size sn_0 sn_1 sn_set0 sn_set1 sn_fold sn_eta sn_fill run_storeCells_sn eqg_sn eqg_it
attribute [local go_sem high] equalIn_sn equalIn_it

theorem spos_has (l : List Sn) (id : Int) (hm : risS 0 l = true) (h : hasS l id = true) : ∃ hp : posS l id < l.length, l[posS l id].1 = id ∧ l.find? (fun x => x.1 == id) = some l[posS l id] := by
  obtain ⟨q, hq, he⟩ := (hasS_iff l id).1 h
  have hlt := risS_lt 0 l hm
  have hp : posS l id = q := posS_of l id q (by omega) (fun p hp hpq => by have := hlt p q hq hpq; omega) (fun p hp hpq => by
    by_cases e : p = q
    · subst e; omega
    · have := hlt q p hp (by omega); omega)
  rw [hp]
  refine ⟨hq, he, ?_⟩
  rw [List.find?_eq_some_iff_getElem]
  refine ⟨by simpa using he, q, hq, rfl, fun j hj => ?_⟩
  have := hlt j q hq hj
  simp; omega

def findS (l : List Sn) (id : Int) : Option Int := if risS 0 l then (l.find? (fun x => x.1 == id)).map (·.2) else none
theorem findS_yes (l : List Sn) (id : Int) (hm : risS 0 l = true) (h : hasS l id = true) : ∃ hp : posS l id < l.length, findS l id = some l[posS l id].2 := by
  obtain ⟨hp, _, hf⟩ := spos_has l id hm h
  exact ⟨hp, by rw [findS, if_pos hm, hf]; rfl⟩
theorem findS_no (l : List Sn) (id : Int) (h : hasS l id = false) : findS l id = none := by
  rw [findS]
  split
  · have : l.find? (fun x => x.1 == id) = none := by
      rw [List.find?_eq_none]
      intro x hx e
      have : hasS l id = true := by rw [hasS, List.any_eq_true]; exact ⟨x, hx, e⟩
      rw [h] at this; cases this
    rw [this]; rfl
  · rfl
theorem findS_not (l : List Sn) (id : Int) (h : risS 0 l = false) : findS l id = none := by rw [findS, h]; rfl

set_option maxHeartbeats 800000 in
theorem vof_any (A : Option Addr) (n c : Nat) (l : List Sn) (id : Int) (w : World) (hl : KS.Rd w A n l) (hn : n ≤ 140737488355328) :
    Calls Try.prog 39 #[.slice A n c, .int .u32 id] w fun e w' => e = .returned (.tuple #[.int .u64 ((findS l id).getD 0), .bool (findS l id).isSome]) ∧ New w w' := by
  obtain rfl : l.length = n := hl.1
  have hA1 := vmay_any A l.length c l
  rcases Bool.eq_false_or_eq_true (risS 0 l) with hm | hm
  · have hris := Lib.hid hm
    have hB1 := vfind_any A l.length c l id
    rw [hm] at hA1
    have HA := Lib.hid hA1
    clear hA1
    rcases Bool.eq_false_or_eq_true (hasS l id) with hh | hh
    · obtain ⟨hp, hx⟩ := findS_yes l id hm hh
      rw [hx]
      rw [hh] at hB1
      have HB := Lib.hid hB1
      clear hx hB1 hm hh
      generalize posS l id = p at *
      have hl3 := hl
      go_enter Try.func39, Try.ntmps39
      have hwA := fun w' (h : New w w') n hn => rowAt_below h n hn
      have hwO := fun w' (h : New w w') n hn => rowOk_below h n hn
      have hwS := fun w' (h : New w w') n (hn : n < w.heap.size) => eq_true (Nat.lt_of_lt_of_le hn h.size)
      obtain ⟨bhl, ohl, rfl, hbhl, hchl⟩ := hl.2 (by omega)
      have hrhl : ∀ w', New w w' → ∀ k (hk : k < l.length), w'.cell? ⟨bhl, ohl + k * 2, none⟩ = (snA l[k])[0]? := fun w' hw k hk => (hw.cell (p := ⟨bhl, _, none⟩) hbhl).trans (hchl k hk 0 (by decide))
      have hshl : ∀ w', New w w' → ∀ k (hk : k < l.length) j, j < 2 → w'.cell? ⟨bhl, ohl + k * 2 + j, none⟩ = (snA l[k])[j]? := fun w' hw k hk j hj => (hw.cell (p := ⟨bhl, _, none⟩) hbhl).trans (hchl k hk j hj)
      clear hchl
      go_wp2_with (first
        | (go_at_call 42; refine (HA.out _ hl3 hn).mono ?_; rintro e w1 ⟨rfl, hb1⟩)
        | (go_at_call 63; refine (HB.out _ (hl3.new hb1) hn hris.out).mono ?_; rintro e w2 ⟨rfl, hb⟩; have hb2 := New.call hb1 hb; clear hb))
      go_ret2
      exact ⟨rfl, hb2⟩
    · rw [findS_no l id hh]
      rw [hh] at hB1
      have HB := Lib.hid hB1
      clear hB1 hm hh
      go_enter Try.func39, Try.ntmps39
      have hwA := fun w' (h : New w w') n hn => rowAt_below h n hn
      have hwO := fun w' (h : New w w') n hn => rowOk_below h n hn
      have hwS := fun w' (h : New w w') n (hn : n < w.heap.size) => eq_true (Nat.lt_of_lt_of_le hn h.size)
      go_wp2_with (first
        | (go_at_call 42; refine (HA.out _ hl hn).mono ?_; rintro e w1 ⟨rfl, hb1⟩)
        | (go_at_call 63; refine (HB.out _ (hl.new hb1) hn hris.out).mono ?_; rintro e w2 ⟨rfl, hb⟩; have hb2 := New.call hb1 hb; clear hb))
      go_ret2
      exact ⟨rfl, hb2⟩
  · rw [findS_not l id hm]
    rw [hm] at hA1
    have HA := Lib.hid hA1
    clear hA1 hm
    go_enter Try.func39, Try.ntmps39
    have hwA := fun w' (h : New w w') n hn => rowAt_below h n hn
    have hwO := fun w' (h : New w w') n hn => rowOk_below h n hn
    have hwS := fun w' (h : New w w') n (hn : n < w.heap.size) => eq_true (Nat.lt_of_lt_of_le hn h.size)
    go_wp2_with (first
      | (go_at_call 42; refine (HA.out _ hl hn).mono ?_; rintro e w1 ⟨rfl, hb1⟩))
    go_ret2
    exact ⟨rfl, hb1⟩

/-! ### the reference -/
theorem sris_bad (l : List Sn) (k : Nat) (hk : k < l.length) (h : ¬ (lastS 0 (l.take k) < l[k].1)) : risS 0 l = false := by
  rw [← Bool.not_eq_true]
  intro h2
  have h3 := risS_take 0 l (k + 1) h2
  rw [risS_step 0 l k hk] at h3
  simp only [Bool.and_eq_true, decide_eq_true_eq] at h3
  exact h h3.2
theorem sris_good (l : List Sn) (k : Nat) (hk : k < l.length) (h0 : risS 0 (l.take k) = true) (h : lastS 0 (l.take k) < l[k].1) : risS 0 (l.take (k + 1)) = true := by
  rw [risS_step 0 l k hk, h0]; simp [h]
def PosS (l : List Sn) : Prop := ∀ x ∈ l, 0 ≤ x.1
theorem PosS.at {l : List Sn} (h : PosS l) (k : Nat) (hk : k < l.length) : 0 ≤ l[k].1 := h _ (List.getElem_mem _)

set_option maxHeartbeats 800000 in
theorem rvmay_any (A : Option Addr) (n c : Nat) (l : List Sn) (w : World) (hl : KS.Rd w A n l) (hn : n ≤ 140737488355328) (hP : PosS l) :
    Calls Try.prog 29 #[.slice A n c] w fun e w' => e = .returned (.bool (risS 0 l)) ∧ New w w' := by
  obtain rfl : l.length = n := hl.1
  go_enter Try.func29, Try.ntmps29
  go_wp2_with fail
  have hwA := fun w' (h : New w w') n hn => rowAt_below h n hn
  have hwO := fun w' (h : New w w') n hn => rowOk_below h n hn
  have hwS := fun w' (h : New w w') n (hn : n < w.heap.size) => eq_true (Nat.lt_of_lt_of_le hn h.size)
  go_loopw [3] (fun i wr => ∃ k : Nat, k ≤ l.length ∧ i = .int .i64 k ∧ New w wr ∧ Hid (risS 0 (l.take k) = true)) (fun i _ => l.length - (intOf i).toNat)
  case atStart => exact ⟨0, by omega, rfl, New.rfl' w, rfl⟩
  case round =>
    obtain ⟨k, hk, rfl, hr, hq⟩ := hrel
    by_cases hlt : k < l.length
    · have hbad := Lib.hid (sris_bad l k hlt)
      have hgood := Lib.hid (sris_good l k hlt hq.out)
      have hp := hP.at k hlt
      obtain ⟨bhl, ohl, rfl, hbhl, hchl⟩ := hl.2 (by omega)
      have hrhl : ∀ w', New w w' → ∀ k (hk : k < l.length), w'.cell? ⟨bhl, ohl + k * 2, none⟩ = (snA l[k])[0]? := fun w' hw k hk => (hw.cell (p := ⟨bhl, _, none⟩) hbhl).trans (hchl k hk 0 (by decide))
      have hshl : ∀ w', New w w' → ∀ k (hk : k < l.length) j, j < 2 → w'.cell? ⟨bhl, ohl + k * 2 + j, none⟩ = (snA l[k])[j]? := fun w' hw k hk j hj => (hw.cell (p := ⟨bhl, _, none⟩) hbhl).trans (hchl k hk j hj)
      clear hchl
      rcases Bool.eq_false_or_eq_true (l[k].1 == 0) with h1 | h1
      · have h1' := Lib.hid (show l[k].1 = 0 by simpa using h1)
        go_wp2_with fail
        go_quiet (fail)
        go_wp2_with fail
        go_ret
        refine ⟨?_, below_drewN hr _⟩
        have hla : 0 ≤ lastS 0 (l.take k) := by
          cases k with
          | zero => simp [lastS]
          | succ j => rw [lastS_step 0 l j (by omega)]; exact hP.at j (by omega)
        rw [hbad.out (by rw [h1'.out]; omega)]; rfl
      have h1' := Lib.hid (show l[k].1 ≠ 0 by simpa using h1)
      cases k with
      | zero =>
        have hz0 := fun w' hw => hrhl w' hw 0 hlt
        simp only [Nat.zero_mul, Nat.add_zero] at hz0
        go_wp2_with fail
        go_quiet (fail)
        go_wp2_with fail
        go_roundw
        case rel => exact ⟨0 + 1, by omega, by go_num, below_drewN hr _, hgood.out (by have := h1'.out; simp [lastS]; omega)⟩
        case measure => simp [intOf]; omega
      | succ j =>
        have hla := Lib.hid (lastS_step 0 l j (by omega))
        have iw : IntKind.i64.wrap ((j : Int) + 1 - 1) = (j : Int) := by rw [IntKind.wrap_i64]; omega
        have i2 : (0 : Int) < (j : Int) + 1 := by omega
        have i3 : j < l.length := by omega
        have i4 : (j : Int) < (l.length : Int) := by omega
        by_cases h3 : l[j + 1].1 ≤ l[j].1
        · go_wp2_with fail
          go_quiet (fail)
          go_wp2_with fail
          go_ret
          exact ⟨by rw [hbad.out (by rw [hla.out]; omega)]; rfl, below_drewN hr _⟩
        · go_wp2_with fail
          go_quiet (fail)
          go_wp2_with fail
          go_roundw
          case rel => exact ⟨j + 1 + 1, by omega, by go_num, below_drewN hr _, hgood.out (by rw [hla.out]; omega)⟩
          case measure => simp [intOf]; omega
    · go_wp2_with fail
      go_ret
      exact ⟨by have h := hq.out; rw [List.take_of_length_le (by omega)] at h; rw [h]; rfl, hr⟩
theorem slist_ne_at (a b : List Sn) (k : Nat) (ha : k < a.length) (hb : k < b.length) (h : a[k] ≠ b[k]) : a ≠ b := by
  intro e; subst e; exact h rfl
set_option maxHeartbeats 800000 in
theorem rvsame_any (A : Option Addr) (n c : Nat) (a : List Sn) (B : Option Addr) (m d : Nat) (b : List Sn) (w : World) (ha : KS.Rd w A n a) (hb : KS.Rd w B m b) (hn : n ≤ 140737488355328) (hm : m ≤ 140737488355328) :
    Calls Try.prog 34 #[.slice A n c, .slice B m d] w fun e w' => e = .returned (.bool (decide (a = b))) ∧ New w w' := by
  obtain rfl : a.length = n := ha.1
  obtain rfl : b.length = m := hb.1
  by_cases hab : a.length = b.length
  · have hE1 : ((a.length : Int) == (b.length : Int)) = true := by simp [hab]
    have HAB := Lib.hid hab
    clear hab
    go_enter Try.func34, Try.ntmps34
    go_wp2_with fail
    have hwA := fun w' (h : New w w') n hn => rowAt_below h n hn
    have hwO := fun w' (h : New w w') n hn => rowOk_below h n hn
    have hwS := fun w' (h : New w w') n (hn : n < w.heap.size) => eq_true (Nat.lt_of_lt_of_le hn h.size)
    go_loopw [5] (fun i wr => ∃ k : Nat, k ≤ a.length ∧ i = .int .i64 k ∧ New w wr ∧ ∀ q, (h : q < a.length) → (h2 : q < b.length) → q < k → Hid (a[q] = b[q])) (fun i _ => a.length - (intOf i).toNat)
    case atStart => exact ⟨0, by omega, rfl, New.rfl' w, fun _ _ _ h => absurd h (by omega)⟩
    case round =>
      obtain ⟨k, hk, rfl, hr, hq⟩ := hrel
      by_cases hlt : k < a.length
      · have hlt2 : k < b.length := by have := HAB.out; omega
        obtain ⟨bha, oha, rfl, hbha, hcha⟩ := ha.2 (by omega)
        have hrha : ∀ w', New w w' → ∀ k (hk : k < a.length), w'.cell? ⟨bha, oha + k * 2, none⟩ = (snA a[k])[0]? := fun w' hw k hk => (hw.cell (p := ⟨bha, _, none⟩) hbha).trans (hcha k hk 0 (by decide))
        have hsha : ∀ w', New w w' → ∀ k (hk : k < a.length) j, j < 2 → w'.cell? ⟨bha, oha + k * 2 + j, none⟩ = (snA a[k])[j]? := fun w' hw k hk j hj => (hw.cell (p := ⟨bha, _, none⟩) hbha).trans (hcha k hk j hj)
        clear hcha
        obtain ⟨bhb, ohb, rfl, hbhb, hchb⟩ := hb.2 (by omega)
        have hrhb : ∀ w', New w w' → ∀ k (hk : k < b.length), w'.cell? ⟨bhb, ohb + k * 2, none⟩ = (snA b[k])[0]? := fun w' hw k hk => (hw.cell (p := ⟨bhb, _, none⟩) hbhb).trans (hchb k hk 0 (by decide))
        have hshb : ∀ w', New w w' → ∀ k (hk : k < b.length) j, j < 2 → w'.cell? ⟨bhb, ohb + k * 2 + j, none⟩ = (snA b[k])[j]? := fun w' hw k hk j hj => (hw.cell (p := ⟨bhb, _, none⟩) hbhb).trans (hchb k hk j hj)
        clear hchb
        by_cases he : a[k] = b[k]
        · have hd : decide (a[k] = b[k]) = true := by simpa using he
          have HE := Lib.hid he
          clear he
          go_wp2_with fail
          go_quiet (fail)
          go_wp2_with fail
          go_roundw
          case rel => exact ⟨k + 1, by omega, by go_num, below_drewN hr _, fun q h h2 hqk => by
            rcases Nat.lt_succ_iff_lt_or_eq.1 hqk with h3 | rfl
            · exact hq q h h2 h3
            · exact HE⟩
          case measure => simp [intOf]; omega
        · have hd : decide (a[k] = b[k]) = false := by simpa using he
          have HE := Lib.hid he
          clear he
          go_wp2_with fail
          go_quiet (fail)
          go_wp2_with fail
          go_ret
          exact ⟨by rw [decide_eq_false (slist_ne_at a b k hlt hlt2 HE.out)]; rfl, below_drewN hr _⟩
      · go_wp2_with fail
        go_ret
        refine ⟨?_, hr⟩
        have : a = b := List.ext_getElem HAB.out fun q h1 h2 => (hq q h1 h2 (by omega)).out
        rw [decide_eq_true this]; rfl
  · have hE1 : ((a.length : Int) == (b.length : Int)) = false := by simp; omega
    have hne : a ≠ b := fun e => hab (by rw [e])
    have HN := Lib.hid hne
    clear hne hab
    go_enter Try.func34, Try.ntmps34
    go_wp2_with fail
    go_ret
    exact ⟨by rw [decide_eq_false HN.out]; rfl, New.rfl' w⟩

/-- a view without an Id -/
def dropS (l : List Sn) (id : Int) : List Sn := if risS 0 l then l.filter fun x => x.1 != id else []
set_option maxHeartbeats 800000 in
set_option maxRecDepth 100000 in
theorem rvdrop_any (A : Option Addr) (n c : Nat) (l : List Sn) (id : Int) (w : World) (hl : KS.Rd w A n l) (hn : n ≤ 1000) (hP : PosS l) :
    Calls Try.prog 35 #[.slice A n c, .int .u32 id] w fun e w' => ∃ v, e = .returned v ∧ KS.Own w' w.heap.size v (dropS l id) ∧ New w w' := by
  obtain rfl : l.length = n := hl.1
  rcases Bool.eq_false_or_eq_true (risS 0 l) with hm | hm
  · skip
    have hth : dropS l id = l.filter (fun x => x.1 != id) := by simp [dropS, hm]
    rw [hth]
    have hA1 := rvmay_any A l.length c l
    rw [hm] at hA1
    have HA := Lib.hid hA1
    clear hA1 hth hm
    have hl0 := hl
    go_enter Try.func35, Try.ntmps35
    have hwA := fun w' (h : New w w') n hn => rowAt_below h n hn
    have hwO := fun w' (h : New w w') n hn => rowOk_below h n hn
    have hwS := fun w' (h : New w w') n (hn : n < w.heap.size) => eq_true (Nat.lt_of_lt_of_le hn h.size)
    go_wp2_with fail
    go_loopw [5, 6] (fun v i wr => ∃ k : Nat, k ≤ l.length ∧ i = .int .i64 k ∧ New w wr ∧ KS.Own wr w.heap.size v ((l.take k).filter fun x => x.1 != id)) (fun _ i _ => l.length - (intOf i).toNat)
    case atStart => exact ⟨0, by omega, rfl, New.rfl' w, Kind.Own.nil⟩
    case round =>
      obtain ⟨k, hk, rfl, hr, hv⟩ := hrel
      by_cases hlt : k < l.length
      · have hst := Lib.hid (filter_step (fun x => x.1 != id) l k hlt)
        have hlen : ((l.take k).filter fun x => x.1 != id).length ≤ k := by have := List.length_filter_le (fun x : Sn => x.1 != id) (l.take k); rw [List.length_take] at this; omega
        obtain ⟨bhl, ohl, rfl, hbhl, hchl⟩ := hl.2 (by omega)
        have hrhl : ∀ w', New w w' → ∀ k (hk : k < l.length), w'.cell? ⟨bhl, ohl + k * 2, none⟩ = (snA l[k])[0]? := fun w' hw k hk => (hw.cell (p := ⟨bhl, _, none⟩) hbhl).trans (hchl k hk 0 (by decide))
        have hshl : ∀ w', New w w' → ∀ k (hk : k < l.length) j, j < 2 → w'.cell? ⟨bhl, ohl + k * 2 + j, none⟩ = (snA l[k])[j]? := fun w' hw k hk j hj => (hw.cell (p := ⟨bhl, _, none⟩) hbhl).trans (hchl k hk j hj)
        clear hchl
        generalize (l.take k).filter (fun x => x.1 != id) = L at *
        have hd : decide ((k : Int) < (l.length : Int)) = true := by simpa using hlt
        rcases Bool.eq_false_or_eq_true (l[k].1 != id) with h1 | h1
        · have hst2 := Lib.hid (show List.filter (fun x => x.1 != id) (l.take (k + 1)) = L ++ [l[k]] by rw [hst.out, h1]; rfl)
          go_wp2_with (first
            | (go_at_call 29; refine (HA.out _ (hl0.new hr) (by omega) hP).mono ?_; rintro e w1 ⟨rfl, hb1⟩; have hr1 := hr.call hb1; have hv1 := hv.new hb1)
            | (at_builtin; refine Kind.wpList_append1 rfl _ _ rfl rfl (hv1.alloc _) l[k] w1.heap.size rfl (by go_simp) (by go_simp <;> rfl) (by omega) KS_b (by have := hr1.size; simp only [World.size_alloc]; omega) ?_; intro v' w2 hv2 _ hg))
          go_roundw
          case rel => exact ⟨k + 1, by omega, by go_num, Kind.Own.grown (hr1.alloc' _) (hv1.alloc _) hg, by rw [hst2.out]; exact hv2⟩
          case measure => simp [intOf]; omega
        · have hst2 := Lib.hid (show List.filter (fun x => x.1 != id) (l.take (k + 1)) = L by rw [hst.out, h1]; simp)
          go_wp2_with (first
            | (go_at_call 29; refine (HA.out _ (hl0.new hr) (by omega) hP).mono ?_; rintro e w1 ⟨rfl, hb1⟩; have hr1 := hr.call hb1; have hv1 := hv.new hb1))
          go_roundw
          case rel => exact ⟨k + 1, by omega, by go_num, hr1, by rw [hst2.out]; exact hv1⟩
          case measure => simp [intOf]; omega
      · have hd : decide ((k : Int) < (l.length : Int)) = false := by simpa using hlt
        go_wp2_with (first
            | (go_at_call 29; refine (HA.out _ (hl0.new hr) (by omega) hP).mono ?_; rintro e w1 ⟨rfl, hb1⟩; have hr1 := hr.call hb1; have hv1 := hv.new hb1))
        go_ret
        exact ⟨_, rfl, by rw [List.take_of_length_le (by omega)] at hv1; exact hv1, hr1⟩
  · have hth : dropS l id = [] := by simp [dropS, hm]
    rw [hth]
    have hA1 := rvmay_any A l.length c l
    rw [hm] at hA1
    have HA := Lib.hid hA1
    clear hA1 hth hm
    go_enter Try.func35, Try.ntmps35
    have hwA := fun w' (h : New w w') n hn => rowAt_below h n hn
    have hwO := fun w' (h : New w w') n hn => rowOk_below h n hn
    have hwS := fun w' (h : New w w') n (hn : n < w.heap.size) => eq_true (Nat.lt_of_lt_of_le hn h.size)
    go_wp2_with fail
    go_loopw [5, 6] (fun v i wr => i = .int .i64 0 ∧ v = .slice none 0 0 ∧ New w wr) (fun _ _ _ => 0)
    case atStart => exact ⟨rfl, rfl, New.rfl' w⟩
    case round =>
      obtain ⟨rfl, rfl, hr⟩ := hrel
      go_wp2_with (first
            | (go_at_call 29; refine (HA.out _ (hl.new hr) (by omega) hP).mono ?_; rintro e w1 ⟨rfl, hb1⟩; have hr1 := hr.call hb1))
      go_ret
      exact ⟨_, rfl, Kind.Own.nil, hr1⟩

end Go.Proofs.Ytkgebhmlogddcaa
