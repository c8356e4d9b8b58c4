/- Contracts of the layer view: which may be, where an Id stands. -/
import Derived.Test.YtkgebhmlogddcaaSn
import Derived.Test.YtkgebhmlogddcaaItem
namespace Go.Proofs.Ytkgebhmlogddcaa
open Go.RowKit
set_option linter.unusedSimpArgs false
attribute [local go_sem] rowAt_alloc_at rowAt_alloc_past rowOk_alloc_at rowOk_alloc_past rowAt_drew rowOk_drew setRow_alloc_at setRow_alloc_past rowAt_setRow rowAt_setRow_far rowOk_setRow cell_rowOk frozen_rowOk setCell_rowOk setRow_setRow con_fold con_get con_size con_set set_all none8_cells equalIn_con storeCells_con
attribute [local go_sem] it_size it_0 it_1 it_2 it_3 it_4 it_5 it_6 it_7 it_8 it_9 it_10 it_set0 it_set1 it_set2 it_fold it_zero it_eta it_fill run_storeCells_it
attribute [local go_sem] sn_size sn_0 sn_1 sn_set0 sn_set1 sn_fold sn_eta sn_fill run_storeCells_sn eqg_sn eqg_it
attribute [local go_sem high] equalIn_sn equalIn_it

/-! ### which views may be -/
def risS : Int → List Sn → Bool
  | _, [] => true
  | a, x :: r => decide (a < x.1) && risS x.1 r
def lastS (a : Int) (l : List Sn) : Int := (l.getLast?.map (·.1)).getD a
theorem lastS_snoc (a : Int) (l : List Sn) (x : Sn) : lastS a (l ++ [x]) = x.1 := by simp [lastS]
theorem risS_snoc (a : Int) (l : List Sn) (x : Sn) : risS a (l ++ [x]) = (risS a l && decide (lastS a l < x.1)) := by
  induction l generalizing a with
  | nil => show (decide (a < x.1) && true) = (true && decide (a < x.1)); rw [Bool.and_true, Bool.true_and]
  | cons y l ih =>
    have h : lastS a (y :: l) = lastS y.1 l := by
      cases l with
      | nil => simp [lastS]
      | cons z l => simp only [lastS, List.getLast?_cons_cons, List.getLast?_cons]; rfl
    simp only [List.cons_append, risS, ih, h, Bool.and_assoc]
theorem risS_pre (a : Int) (l m : List Sn) (h : risS a (l ++ m) = true) : risS a l = true := by
  induction l generalizing a with
  | nil => rfl
  | cons x l ih =>
    simp only [List.cons_append, risS, Bool.and_eq_true] at h ⊢
    exact ⟨h.1, ih _ h.2⟩
theorem risS_take (a : Int) (l : List Sn) (k : Nat) (h : risS a l = true) : risS a (l.take k) = true := risS_pre a (l.take k) (l.drop k) (by rwa [List.take_append_drop])
theorem risS_step (a : Int) (l : List Sn) (k : Nat) (hk : k < l.length) : risS a (l.take (k + 1)) = (risS a (l.take k) && decide (lastS a (l.take k) < l[k].1)) := by
  rw [List.take_succ_eq_append_getElem hk, risS_snoc]
theorem lastS_step (a : Int) (l : List Sn) (k : Nat) (hk : k < l.length) : lastS a (l.take (k + 1)) = l[k].1 := by
  rw [List.take_succ_eq_append_getElem hk, lastS_snoc]

set_option maxHeartbeats 400000 in
theorem vmay_any (A : Option Addr) (n c : Nat) (l : List Sn) (w : World) (hl : KS.Rd w A n l) (hn : n ≤ 140737488355328) :
    Calls Try.prog 42 #[.slice A n c] w fun e w' => e = .returned (.bool (risS 0 l)) ∧ New w w' := by
  obtain rfl : l.length = n := hl.1
  go_enter Try.func42, Try.ntmps42
  go_wp2_with fail
  have hwA := fun w' (h : New w w') n hn => rowAt_below h n hn
  have hwO := fun w' (h : New w w') n hn => rowOk_below h n hn
  have hwS := fun w' (h : New w w') n (hn : n < w.heap.size) => eq_true (Nat.lt_of_lt_of_le hn h.size)
  go_loopw [3, 8] (fun v i wr => ∃ k : Nat, k ≤ l.length ∧ i = .int .i64 k ∧ v = .int .u32 (lastS 0 (l.take k)) ∧ New w wr ∧ Hid (risS 0 (l.take k) = true)) (fun _ i _ => l.length - (intOf i).toNat)
  case atStart => exact ⟨0, by omega, rfl, rfl, New.rfl' w, rfl⟩
  case round =>
    obtain ⟨k, hk, rfl, rfl, hr, hq⟩ := hrel
    by_cases hlt : k < l.length
    · have hst := Lib.hid (risS_step 0 l k hlt)
      have hla := Lib.hid (lastS_step 0 l k hlt)
      obtain ⟨bhl, ohl, rfl, hbhl, hchl⟩ := hl.2 (by omega)
      have hrhl : ∀ w', New w w' → ∀ k (hk : k < l.length), w'.cell? ⟨bhl, ohl + k * 2, none⟩ = (snA l[k])[0]? := fun w' hw k hk => (hw.cell (p := ⟨bhl, _, none⟩) hbhl).trans (hchl k hk 0 (by decide))
      have hshl : ∀ w', New w w' → ∀ k (hk : k < l.length) j, j < 2 → w'.cell? ⟨bhl, ohl + k * 2 + j, none⟩ = (snA l[k])[j]? := fun w' hw k hk j hj => (hw.cell (p := ⟨bhl, _, none⟩) hbhl).trans (hchl k hk j hj)
      clear hchl
      generalize lastS 0 (l.take k) = a at *
      by_cases h1 : l[k].1 ≤ a
      · go_wp2_with fail
        go_ret
        refine ⟨?_, hr.alloc' _⟩
        have : risS 0 l = false := by
          rw [← Bool.not_eq_true]
          intro h
          have h2 := risS_take 0 l (k + 1) h
          rw [hst.out] at h2
          simp at h2
          omega
        rw [this]; rfl
      · go_wp2_with fail
        go_roundw
        case rel => exact ⟨k + 1, by omega, by go_num, by rw [hla.out], hr.alloc' _, by rw [Hid, hst.out, hq.out]; simp; omega⟩
        case measure => simp [intOf]; omega
    · go_wp2_with fail
      go_ret
      exact ⟨by have h := hq.out; rw [List.take_of_length_le (by omega)] at h; rw [h]; rfl, hr⟩

/-! ### where an Id stands, or would -/
set_option maxHeartbeats 400000 in
theorem vfind1_any (x : Sn) (id : Int) (w : World) :
    Calls Try.prog 78 #[.agg (snA x), .int .u32 id] w fun e w' => e = .returned (.int .i64 (cmpI x.1 id)) ∧ New w w' := by
  by_cases h1 : x.1 < id
  · go_enter Try.func78, Try.ntmps78
    go_wp2
    go_ret
    exact ⟨by simp only [cmpI, if_pos h1]; rfl, (New.rfl' w).alloc' _⟩
  · by_cases h2 : id < x.1
    · go_enter Try.func78, Try.ntmps78
      go_wp2
      go_ret
      exact ⟨by rw [cmpI, if_neg (by omega), if_pos (by omega)]; rfl, (New.rfl' w).alloc' _⟩
    · go_enter Try.func78, Try.ntmps78
      go_wp2
      go_ret
      exact ⟨by rw [cmpI, if_neg (by omega), if_neg (by omega)]; rfl, (New.rfl' w).alloc' _⟩

def posS (l : List Sn) (id : Int) : Nat := (l.takeWhile fun x => decide (x.1 < id)).length
def hasS (l : List Sn) (id : Int) : Bool := l.any fun x => x.1 == id
theorem posS_of (l : List Sn) (id : Int) (i : Nat) (hi : i ≤ l.length) (h1 : ∀ q, (h : q < l.length) → q < i → l[q].1 < id) (h2 : ∀ q, (h : q < l.length) → i ≤ q → id ≤ l[q].1) : posS l id = i := by
  induction l generalizing i with
  | nil => simp at hi; subst hi; rfl
  | cons x l ih =>
    rcases i with _ | i
    · have := h2 0 (by simp) (by omega)
      simp only [List.getElem_cons_zero] at this
      simp [posS, List.takeWhile_cons, show ¬ x.1 < id from by omega]
    · have := h1 0 (by simp) (by omega)
      simp only [List.getElem_cons_zero] at this
      have h := ih i (by simpa using hi) (fun q hq hqi => by have := h1 (q + 1) (by simpa using hq) (by omega); simpa using this) (fun q hq hqi => by have := h2 (q + 1) (by simpa using hq) (by omega); simpa using this)
      simp only [posS, List.takeWhile_cons, this, decide_true, if_true, List.length_cons] at h ⊢
      rw [h]
theorem risS_lt (a : Int) (l : List Sn) (h : risS a l = true) : ∀ p q, (hq : q < l.length) → (hpq : p < q) → l[p].1 < l[q].1 := by
  induction l generalizing a with
  | nil => intro p q hq; simp at hq
  | cons x l ih =>
    simp only [risS, Bool.and_eq_true, decide_eq_true_eq] at h
    have hlow : ∀ (l : List Sn) (a : Int), risS a l = true → ∀ q, (hq : q < l.length) → a < l[q].1 := by
      intro l
      induction l with
      | nil => intro a _ q hq; simp at hq
      | cons y l ihl =>
        intro a ha q hq
        simp only [risS, Bool.and_eq_true, decide_eq_true_eq] at ha
        rcases q with _ | q
        · simpa using ha.1
        · have := ihl y.1 ha.2 q (by simpa using hq)
          simp only [List.getElem_cons_succ]; omega
    intro p q hq hpq
    rcases q with _ | q
    · omega
    · rcases p with _ | p
      · simpa using hlow l x.1 h.2 q (by simpa using hq)
      · simpa using ih x.1 h.2 p q (by simpa using hq) (by omega)

theorem hasS_iff (l : List Sn) (id : Int) : hasS l id = true ↔ ∃ q, ∃ h : q < l.length, l[q].1 = id := by
  simp only [hasS, List.any_eq_true, beq_iff_eq]
  constructor
  · rintro ⟨x, hx, he⟩
    obtain ⟨q, hq, rfl⟩ := List.getElem_of_mem hx
    exact ⟨q, hq, he⟩
  · rintro ⟨q, hq, he⟩
    exact ⟨l[q], List.getElem_mem hq, he⟩
theorem hasS_at (l : List Sn) (id : Int) (i : Nat) (hi : i < l.length) (h1 : ∀ q, (h : q < l.length) → q < i → l[q].1 < id) (h2 : ∀ q, (h : q < l.length) → i ≤ q → id ≤ l[q].1)
    (hlt : ∀ p q, (hq : q < l.length) → (hpq : p < q) → l[p].1 < l[q].1) : hasS l id = decide (l[i].1 = id) := by
  rw [Bool.eq_iff_iff, hasS_iff, decide_eq_true_eq]
  constructor
  · rintro ⟨q, hq, he⟩
    by_cases hqi : q < i
    · have := h1 q hq hqi; omega
    · by_cases hqi2 : q = i
      · subst hqi2; exact he
      · have := hlt i q hq (by omega)
        have := h2 i hi (Nat.le_refl _)
        omega
  · intro h; exact ⟨i, hi, h⟩
theorem hasS_end (l : List Sn) (id : Int) (h1 : ∀ q, (h : q < l.length) → q < l.length → l[q].1 < id) : hasS l id = false := by
  rw [← Bool.not_eq_true, hasS_iff]
  rintro ⟨q, hq, he⟩
  have := h1 q hq hq; omega
set_option maxHeartbeats 800000 in
theorem vbs_any (A : Option Addr) (n c : Nat) (l : List Sn) (id : Int) (w : World) (hl : KS.Rd w A n l) (hn : n ≤ 140737488355328) (hm : risS 0 l = true) :
    Calls Try.prog 77 #[.slice A n c, .int .u32 id, .func (.func 78) #[] #[]] w fun e w' => e = .returned (.tuple #[.int .i64 (posS l id : Nat), .bool (hasS l id)]) ∧ New w w' := by
  obtain rfl : l.length = n := hl.1
  have HM := Lib.hid (risS_lt 0 l hm)
  clear hm
  go_enter Try.func77, Try.ntmps77
  go_wp2_with fail
  have hwA := fun w' (h : New w w') n hn => rowAt_below h n hn
  have hwO := fun w' (h : New w w') n hn => rowOk_below h n hn
  have hwS := fun w' (h : New w w') n (hn : n < w.heap.size) => eq_true (Nat.lt_of_lt_of_le hn h.size)
  go_loopw [9, 10] (fun v u wr => ∃ i j : Nat, i ≤ j ∧ j ≤ l.length ∧ v = .int .i64 i ∧ u = .int .i64 j ∧ New w wr ∧ Hid ((∀ q, (h : q < l.length) → q < i → l[q].1 < id) ∧ ∀ q, (h : q < l.length) → j ≤ q → id ≤ l[q].1)) (fun v u _ => (intOf u).toNat - (intOf v).toNat)
  case atStart => exact ⟨0, l.length, by omega, by omega, rfl, rfl, New.rfl' w, fun q _ h => by omega, fun q h1 h2 => by omega⟩
  case round =>
    obtain ⟨i, j, hij, hj, rfl, rfl, hr, hq⟩ := hrel
    by_cases hlt : i < j
    · have hk : (i + j) / 2 < l.length := by omega
      have e1 : ((i : Int) + (j : Int)) / 2 = (((i + j) / 2 : Nat) : Int) := by omega
      have hk1 : i ≤ (i + j) / 2 := by omega
      have hk2 : (i + j) / 2 < j := by omega
      generalize hkk : (i + j) / 2 = k at *
      clear hkk
      obtain ⟨bhl, ohl, rfl, hbhl, hchl⟩ := hl.2 (by omega)
      have hrhl : ∀ w', New w w' → ∀ k (hk : k < l.length), w'.cell? ⟨bhl, ohl + k * 2, none⟩ = (snA l[k])[0]? := fun w' hw k hk => (hw.cell (p := ⟨bhl, _, none⟩) hbhl).trans (hchl k hk 0 (by decide))
      have hshl : ∀ w', New w w' → ∀ k (hk : k < l.length) j, j < 2 → w'.cell? ⟨bhl, ohl + k * 2 + j, none⟩ = (snA l[k])[j]? := fun w' hw k hk j hj => (hw.cell (p := ⟨bhl, _, none⟩) hbhl).trans (hchl k hk j hj)
      clear hchl
      go_wp2_with (first | (go_at_call 78; refine (vfind1_any _ _ _).mono ?_; rintro e w1 ⟨rfl, hb⟩; have hb' := New.call (by assumption) hb; clear hb))
      · have ht : cmpI l[k].1 id < 0 := by assumption
        have ht' : l[k].1 < id := by
          by_cases h1 : l[k].1 < id
          · exact h1
          · by_cases h2 : id < l[k].1 <;> simp [cmpI, h1, h2] at ht
        go_roundw
        case rel =>
          refine ⟨k + 1, j, by omega, hj, by go_num, rfl, hb', ?_⟩
          refine ⟨fun q h hqk => ?_, hq.out.2⟩
          by_cases e : q = k
          · subst e; exact ht'
          · have := HM.out q k hk (by omega); omega
        case measure => simp [intOf]; omega
      · have ht : 0 ≤ cmpI l[k].1 id := by assumption
        have ht' : id ≤ l[k].1 := by
          by_cases h1 : l[k].1 < id
          · simp [cmpI, h1] at ht
          · omega
        go_roundw
        case rel =>
          refine ⟨i, k, by omega, by omega, rfl, rfl, hb', ?_⟩
          refine ⟨hq.out.1, fun q h hqk => ?_⟩
          by_cases e : q = k
          · subst e; exact ht'
          · have := HM.out k q h (by omega); omega
        case measure => simp [intOf]; omega
    · obtain rfl : i = j := by omega
      clear hij hlt
      have hp := Lib.hid (posS_of l id i hj hq.out.1 hq.out.2)
      by_cases hin : i < l.length
      · skip
        obtain ⟨bhl, ohl, rfl, hbhl, hchl⟩ := hl.2 (by omega)
        have hrhl : ∀ w', New w w' → ∀ k (hk : k < l.length), w'.cell? ⟨bhl, ohl + k * 2, none⟩ = (snA l[k])[0]? := fun w' hw k hk => (hw.cell (p := ⟨bhl, _, none⟩) hbhl).trans (hchl k hk 0 (by decide))
        have hshl : ∀ w', New w w' → ∀ k (hk : k < l.length) j, j < 2 → w'.cell? ⟨bhl, ohl + k * 2 + j, none⟩ = (snA l[k])[j]? := fun w' hw k hk j hj => (hw.cell (p := ⟨bhl, _, none⟩) hbhl).trans (hchl k hk j hj)
        clear hchl
        go_wp2_with (first | (go_at_call 78; refine (vfind1_any _ _ _).mono ?_; rintro e w1 ⟨rfl, hb⟩; have hb' := New.call (by assumption) hb; clear hb))
        go_ret2
        exact ⟨by rw [hp.out, hasS_at l id i hin hq.out.1 hq.out.2 HM.out, ← cmpI_zero]; rfl, hb'⟩
      · obtain rfl : i = l.length := by omega
        clear hin
        go_wp2_with fail
        go_ret2
        exact ⟨by rw [hp.out, hasS_end l id hq.out.1]; rfl, hr⟩

set_option maxHeartbeats 400000 in
theorem vfind_any (A : Option Addr) (n c : Nat) (l : List Sn) (id : Int) (w : World) (hl : KS.Rd w A n l) (hn : n ≤ 140737488355328) (hm : risS 0 l = true) :
    Calls Try.prog 63 #[.slice A n c, .int .u32 id] w fun e w' => e = .returned (.tuple #[.int .i64 (posS l id : Nat), .bool (hasS l id)]) ∧ New w w' := by
  have hm' := Lib.hid hm
  go_enter Try.func63, Try.ntmps63
  go_wp2_with (first | (go_at_call 77; refine (vbs_any A n c l id _ hl hn hm'.out).mono ?_; rintro e w1 ⟨rfl, hb⟩))
  go_ret2
  exact ⟨rfl, hb⟩


end Go.Proofs.Ytkgebhmlogddcaa
