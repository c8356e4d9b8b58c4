/- Contracts of the layer item and of its reference. -/
import Derived.Test.YtkgebhmlogddcaaIt
namespace Go.Proofs.Ytkgebhmlogddcaa
open Go.RowKit
set_option linter.unusedSimpArgs false
attribute [local go_sem] rowAt_alloc_at rowAt_alloc_past rowOk_alloc_at rowOk_alloc_past rowAt_drew rowOk_drew setRow_alloc_at setRow_alloc_past rowAt_setRow rowAt_setRow_far rowOk_setRow cell_rowOk frozen_rowOk setCell_rowOk setRow_setRow con_fold con_get con_size con_set set_all none8_cells equalIn_con storeCells_con
attribute [local go_sem] it_size it_0 it_1 it_2 it_3 it_4 it_5 it_6 it_7 it_8 it_9 it_10 it_set0 it_set1 it_set2 it_fold it_zero it_eta it_fill run_storeCells_it

/-! ### which items may be -/
def risI : Int → List It → Bool
  | _, [] => true
  | a, x :: r => decide (a < x.1) && (x.2.1 != 0) && risI x.1 r
def mayI (l : List It) : Bool := decide (l.length ≤ 40) && risI 0 l
def lastI (a : Int) (l : List It) : Int := (l.getLast?.map (·.1)).getD a
theorem lastI_snoc (a : Int) (l : List It) (x : It) : lastI a (l ++ [x]) = x.1 := by simp [lastI]
theorem risI_snoc (a : Int) (l : List It) (x : It) : risI a (l ++ [x]) = (risI a l && decide (lastI a l < x.1) && (x.2.1 != 0)) := by
  induction l generalizing a with
  | nil => show (decide (a < x.1) && (x.2.1 != 0) && true) = (true && decide (a < x.1) && (x.2.1 != 0)); rw [Bool.and_true, Bool.true_and]
  | cons y l ih =>
    have h : lastI a (y :: l) = lastI y.1 l := by
      cases l with
      | nil => simp [lastI]
      | cons z l => simp only [lastI, List.getLast?_cons_cons, List.getLast?_cons]; rfl
    simp only [List.cons_append, risI, ih, h, Bool.and_assoc]
theorem risI_pre (a : Int) (l m : List It) (h : risI a (l ++ m) = true) : risI a l = true := by
  induction l generalizing a with
  | nil => rfl
  | cons x l ih =>
    simp only [List.cons_append, risI, Bool.and_eq_true] at h ⊢
    exact ⟨h.1, ih _ h.2⟩
theorem risI_take (a : Int) (l : List It) (k : Nat) (h : risI a l = true) : risI a (l.take k) = true := risI_pre a (l.take k) (l.drop k) (by rwa [List.take_append_drop])
theorem risI_step (a : Int) (l : List It) (k : Nat) (hk : k < l.length) : risI a (l.take (k + 1)) = (risI a (l.take k) && decide (lastI a (l.take k) < l[k].1) && (l[k].2.1 != 0)) := by
  rw [List.take_succ_eq_append_getElem hk, risI_snoc]
theorem lastI_step (a : Int) (l : List It) (k : Nat) (hk : k < l.length) : lastI a (l.take (k + 1)) = l[k].1 := by
  rw [List.take_succ_eq_append_getElem hk, lastI_snoc]

set_option maxHeartbeats 400000 in
theorem imay_any (A : Option Addr) (n c : Nat) (l : List It) (w : World) (hl : KI.Rd w A n l) (hn : n ≤ 140737488355328) :
    Calls Try.prog 21 #[.slice A n c] w fun e w' => e = .returned (.bool (mayI l)) ∧ New w w' := by
  obtain rfl : l.length = n := hl.1
  by_cases h40 : l.length ≤ 40
  · have hm : mayI l = risI 0 l := by simp [mayI, h40]
    rw [hm]
    have HM := Lib.hid hm
    clear hm
    go_enter Try.func21, Try.ntmps21
    go_wp2_with fail
    have hwA := fun w' (h : New w w') n hn => rowAt_below h n hn
    have hwO := fun w' (h : New w w') n hn => rowOk_below h n hn
    have hwS := fun w' (h : New w w') n (hn : n < w.heap.size) => eq_true (Nat.lt_of_lt_of_le hn h.size)
    go_loopw [3, 11] (fun v i wr => ∃ k : Nat, k ≤ l.length ∧ i = .int .i64 k ∧ v = .int .u32 (lastI 0 (l.take k)) ∧ New w wr ∧ Hid (risI 0 (l.take k) = true)) (fun _ i _ => l.length - (intOf i).toNat)
    case atStart => exact ⟨0, by omega, rfl, rfl, New.rfl' w, rfl⟩
    case round =>
      obtain ⟨k, hk, rfl, rfl, hr, hq⟩ := hrel
      by_cases hlt : k < l.length
      · have hst := Lib.hid (risI_step 0 l k hlt)
        have hla := Lib.hid (lastI_step 0 l k hlt)
        obtain ⟨bhl, ohl, rfl, hbhl, hchl⟩ := hl.2 (by omega)
        have hrhl : ∀ w', New w w' → ∀ k (hk : k < l.length), w'.cell? ⟨bhl, ohl + k * 11, none⟩ = (itA l[k])[0]? := fun w' hw k hk => (hw.cell (p := ⟨bhl, _, none⟩) hbhl).trans (hchl k hk 0 (by decide))
        have hshl : ∀ w', New w w' → ∀ k (hk : k < l.length) j, j < 11 → w'.cell? ⟨bhl, ohl + k * 11 + j, none⟩ = (itA l[k])[j]? := fun w' hw k hk j hj => (hw.cell (p := ⟨bhl, _, none⟩) hbhl).trans (hchl k hk j hj)
        clear hchl
        generalize lastI 0 (l.take k) = a at *
        by_cases h1 : l[k].1 ≤ a
        · go_wp2_with fail
          go_ret
          refine ⟨?_, hr.alloc' _⟩
          have : risI 0 l = false := by
            rw [← Bool.not_eq_true]
            intro h
            have h2 := risI_take 0 l (k + 1) h
            rw [hst.out] at h2
            simp at h2
            omega
          rw [this]; rfl
        · by_cases h2 : l[k].2.1 = 0
          · have h2' : (l[k].2.1 == 0) = true := by simpa using h2
            have H2 := Lib.hid h2
            clear h2
            go_wp2_with fail
            go_ret
            refine ⟨?_, hr.alloc' _⟩
            have : risI 0 l = false := by
              rw [← Bool.not_eq_true]
              intro h
              have h3 := risI_take 0 l (k + 1) h
              rw [hst.out] at h3
              simp [H2.out] at h3
            rw [this]; rfl
          · have h2' : (l[k].2.1 == 0) = false := by simpa using h2
            go_wp2_with fail
            go_roundw
            case rel => exact ⟨k + 1, by omega, by go_num, by rw [hla.out], hr.alloc' _, by rw [Hid, hst.out, hq.out]; simp [h2]; omega⟩
            case measure => simp [intOf]; omega
      · go_wp2_with fail
        go_ret
        exact ⟨by have h := hq.out; rw [List.take_of_length_le (by omega)] at h; rw [h]; rfl, hr⟩
  · have hm : mayI l = false := by simp [mayI, h40]
    rw [hm]
    clear hm
    go_enter Try.func21, Try.ntmps21
    go_wp2_with fail
    go_ret
    exact ⟨rfl, New.rfl' w⟩

/-! ### where an Id stands, or would -/
def cmpI (a b : Int) : Int := if a < b then -1 else if b < a then 1 else 0
set_option maxHeartbeats 400000 in
theorem ifind1_any (x : It) (id : Int) (w : World) :
    Calls Try.prog 70 #[.agg (itA x), .int .u32 id] w fun e w' => e = .returned (.int .i64 (cmpI x.1 id)) ∧ New w w' := by
  by_cases h1 : x.1 < id
  · go_enter Try.func70, Try.ntmps70
    go_wp2
    go_ret
    exact ⟨by simp only [cmpI, if_pos h1]; rfl, (New.rfl' w).alloc' _⟩
  · by_cases h2 : id < x.1
    · go_enter Try.func70, Try.ntmps70
      go_wp2
      go_ret
      exact ⟨by rw [cmpI, if_neg (by omega), if_pos (by omega)]; rfl, (New.rfl' w).alloc' _⟩
    · go_enter Try.func70, Try.ntmps70
      go_wp2
      go_ret
      exact ⟨by rw [cmpI, if_neg (by omega), if_neg (by omega)]; rfl, (New.rfl' w).alloc' _⟩

def posI (l : List It) (id : Int) : Nat := (l.takeWhile fun x => decide (x.1 < id)).length
def hasI (l : List It) (id : Int) : Bool := l.any fun x => x.1 == id
theorem posI_of (l : List It) (id : Int) (i : Nat) (hi : i ≤ l.length) (h1 : ∀ q, (h : q < l.length) → q < i → l[q].1 < id) (h2 : ∀ q, (h : q < l.length) → i ≤ q → id ≤ l[q].1) : posI l id = i := by
  induction l generalizing i with
  | nil => simp at hi; subst hi; rfl
  | cons x l ih =>
    rcases i with _ | i
    · have := h2 0 (by simp) (by omega)
      simp only [List.getElem_cons_zero] at this
      simp [posI, List.takeWhile_cons, show ¬ x.1 < id from by omega]
    · have := h1 0 (by simp) (by omega)
      simp only [List.getElem_cons_zero] at this
      have h := ih i (by simpa using hi) (fun q hq hqi => by have := h1 (q + 1) (by simpa using hq) (by omega); simpa using this) (fun q hq hqi => by have := h2 (q + 1) (by simpa using hq) (by omega); simpa using this)
      simp only [posI, List.takeWhile_cons, this, decide_true, if_true, List.length_cons] at h ⊢
      rw [h]
theorem risI_lt (a : Int) (l : List It) (h : risI a l = true) : ∀ p q, (hq : q < l.length) → (hpq : p < q) → l[p].1 < l[q].1 := by
  induction l generalizing a with
  | nil => intro p q hq; simp at hq
  | cons x l ih =>
    simp only [risI, Bool.and_eq_true, decide_eq_true_eq] at h
    have hlow : ∀ (l : List It) (a : Int), risI a l = true → ∀ q, (hq : q < l.length) → a < l[q].1 := by
      intro l
      induction l with
      | nil => intro a _ q hq; simp at hq
      | cons y l ihl =>
        intro a ha q hq
        simp only [risI, Bool.and_eq_true, decide_eq_true_eq] at ha
        rcases q with _ | q
        · simpa using ha.1.1
        · have := ihl y.1 ha.2 q (by simpa using hq)
          simp only [List.getElem_cons_succ]; omega
    intro p q hq hpq
    rcases q with _ | q
    · omega
    · rcases p with _ | p
      · simpa using hlow l x.1 h.2 q (by simpa using hq)
      · simpa using ih x.1 h.2 p q (by simpa using hq) (by omega)

theorem hasI_iff (l : List It) (id : Int) : hasI l id = true ↔ ∃ q, ∃ h : q < l.length, l[q].1 = id := by
  simp only [hasI, List.any_eq_true, beq_iff_eq]
  constructor
  · rintro ⟨x, hx, he⟩
    obtain ⟨q, hq, rfl⟩ := List.getElem_of_mem hx
    exact ⟨q, hq, he⟩
  · rintro ⟨q, hq, he⟩
    exact ⟨l[q], List.getElem_mem hq, he⟩
theorem hasI_at (l : List It) (id : Int) (i : Nat) (hi : i < l.length) (h1 : ∀ q, (h : q < l.length) → q < i → l[q].1 < id) (h2 : ∀ q, (h : q < l.length) → i ≤ q → id ≤ l[q].1)
    (hlt : ∀ p q, (hq : q < l.length) → (hpq : p < q) → l[p].1 < l[q].1) : hasI l id = decide (l[i].1 = id) := by
  rw [Bool.eq_iff_iff, hasI_iff, decide_eq_true_eq]
  constructor
  · rintro ⟨q, hq, he⟩
    by_cases hqi : q < i
    · have := h1 q hq hqi; omega
    · by_cases hqi2 : q = i
      · subst hqi2; exact he
      · have := hlt i q hq (by omega)
        have := h2 i hi (Nat.le_refl _)
        omega
  · intro h; exact ⟨i, hi, h⟩
theorem hasI_end (l : List It) (id : Int) (h1 : ∀ q, (h : q < l.length) → q < l.length → l[q].1 < id) : hasI l id = false := by
  rw [← Bool.not_eq_true, hasI_iff]
  rintro ⟨q, hq, he⟩
  have := h1 q hq hq; omega
theorem cmpI_zero (a b : Int) : (cmpI a b == 0) = decide (a = b) := by
  unfold cmpI
  by_cases h1 : a < b
  · simp [h1]; omega
  · by_cases h2 : b < a
    · simp [h1, h2]; omega
    · simp [h1, h2]; omega

set_option maxHeartbeats 800000 in
theorem ibs_any (A : Option Addr) (n c : Nat) (l : List It) (id : Int) (w : World) (hl : KI.Rd w A n l) (hn : n ≤ 140737488355328) (hm : risI 0 l = true) :
    Calls Try.prog 69 #[.slice A n c, .int .u32 id, .func (.func 70) #[] #[]] w fun e w' => e = .returned (.tuple #[.int .i64 (posI l id : Nat), .bool (hasI l id)]) ∧ New w w' := by
  obtain rfl : l.length = n := hl.1
  have HM := Lib.hid (risI_lt 0 l hm)
  clear hm
  go_enter Try.func69, Try.ntmps69
  go_wp2_with fail
  have hwA := fun w' (h : New w w') n hn => rowAt_below h n hn
  have hwO := fun w' (h : New w w') n hn => rowOk_below h n hn
  have hwS := fun w' (h : New w w') n (hn : n < w.heap.size) => eq_true (Nat.lt_of_lt_of_le hn h.size)
  go_loopw [9, 10] (fun v u wr => ∃ i j : Nat, i ≤ j ∧ j ≤ l.length ∧ v = .int .i64 i ∧ u = .int .i64 j ∧ New w wr ∧ Hid ((∀ q, (h : q < l.length) → q < i → l[q].1 < id) ∧ ∀ q, (h : q < l.length) → j ≤ q → id ≤ l[q].1)) (fun v u _ => (intOf u).toNat - (intOf v).toNat)
  case atStart => exact ⟨0, l.length, by omega, by omega, rfl, rfl, New.rfl' w, fun q _ h => by omega, fun q h1 h2 => by omega⟩
  case round =>
    obtain ⟨i, j, hij, hj, rfl, rfl, hr, hq⟩ := hrel
    by_cases hlt : i < j
    · have hk : (i + j) / 2 < l.length := by omega
      have e1 : ((i : Int) + (j : Int)) / 2 = (((i + j) / 2 : Nat) : Int) := by omega
      have hk1 : i ≤ (i + j) / 2 := by omega
      have hk2 : (i + j) / 2 < j := by omega
      generalize hkk : (i + j) / 2 = k at *
      clear hkk
      obtain ⟨bhl, ohl, rfl, hbhl, hchl⟩ := hl.2 (by omega)
      have hrhl : ∀ w', New w w' → ∀ k (hk : k < l.length), w'.cell? ⟨bhl, ohl + k * 11, none⟩ = (itA l[k])[0]? := fun w' hw k hk => (hw.cell (p := ⟨bhl, _, none⟩) hbhl).trans (hchl k hk 0 (by decide))
      have hshl : ∀ w', New w w' → ∀ k (hk : k < l.length) j, j < 11 → w'.cell? ⟨bhl, ohl + k * 11 + j, none⟩ = (itA l[k])[j]? := fun w' hw k hk j hj => (hw.cell (p := ⟨bhl, _, none⟩) hbhl).trans (hchl k hk j hj)
      clear hchl
      go_wp2_with (first | (go_at_call 70; refine (ifind1_any _ _ _).mono ?_; rintro e w1 ⟨rfl, hb⟩; have hb' := New.call (by assumption) hb; clear hb))
      · have ht : cmpI l[k].1 id < 0 := by assumption
        have ht' : l[k].1 < id := by
          by_cases h1 : l[k].1 < id
          · exact h1
          · by_cases h2 : id < l[k].1 <;> simp [cmpI, h1, h2] at ht
        go_roundw
        case rel =>
          refine ⟨k + 1, j, by omega, hj, by go_num, rfl, hb', ?_⟩
          refine ⟨fun q h hqk => ?_, hq.out.2⟩
          by_cases e : q = k
          · subst e; exact ht'
          · have := HM.out q k hk (by omega); omega
        case measure => simp [intOf]; omega
      · have ht : 0 ≤ cmpI l[k].1 id := by assumption
        have ht' : id ≤ l[k].1 := by
          by_cases h1 : l[k].1 < id
          · simp [cmpI, h1] at ht
          · omega
        go_roundw
        case rel =>
          refine ⟨i, k, by omega, by omega, rfl, rfl, hb', ?_⟩
          refine ⟨hq.out.1, fun q h hqk => ?_⟩
          by_cases e : q = k
          · subst e; exact ht'
          · have := HM.out k q h (by omega); omega
        case measure => simp [intOf]; omega
    · obtain rfl : i = j := by omega
      clear hij hlt
      have hp := Lib.hid (posI_of l id i hj hq.out.1 hq.out.2)
      by_cases hin : i < l.length
      · skip
        obtain ⟨bhl, ohl, rfl, hbhl, hchl⟩ := hl.2 (by omega)
        have hrhl : ∀ w', New w w' → ∀ k (hk : k < l.length), w'.cell? ⟨bhl, ohl + k * 11, none⟩ = (itA l[k])[0]? := fun w' hw k hk => (hw.cell (p := ⟨bhl, _, none⟩) hbhl).trans (hchl k hk 0 (by decide))
        have hshl : ∀ w', New w w' → ∀ k (hk : k < l.length) j, j < 11 → w'.cell? ⟨bhl, ohl + k * 11 + j, none⟩ = (itA l[k])[j]? := fun w' hw k hk j hj => (hw.cell (p := ⟨bhl, _, none⟩) hbhl).trans (hchl k hk j hj)
        clear hchl
        go_wp2_with (first | (go_at_call 70; refine (ifind1_any _ _ _).mono ?_; rintro e w1 ⟨rfl, hb⟩; have hb' := New.call (by assumption) hb; clear hb))
        go_ret2
        exact ⟨by rw [hp.out, hasI_at l id i hin hq.out.1 hq.out.2 HM.out, ← cmpI_zero]; rfl, hb'⟩
      · obtain rfl : i = l.length := by omega
        clear hin
        go_wp2_with fail
        go_ret2
        exact ⟨by rw [hp.out, hasI_end l id hq.out.1]; rfl, hr⟩

set_option maxHeartbeats 400000 in
theorem ifind_any (A : Option Addr) (n c : Nat) (l : List It) (id : Int) (w : World) (hl : KI.Rd w A n l) (hn : n ≤ 140737488355328) (hm : risI 0 l = true) :
    Calls Try.prog 47 #[.slice A n c, .int .u32 id] w fun e w' => e = .returned (.tuple #[.int .i64 (posI l id : Nat), .bool (hasI l id)]) ∧ New w w' := by
  have hm' := Lib.hid hm
  go_enter Try.func47, Try.ntmps47
  go_wp2_with (first | (go_at_call 69; refine (ibs_any A n c l id _ hl hn hm'.out).mono ?_; rintro e w1 ⟨rfl, hb⟩))
  go_ret2
  exact ⟨rfl, hb⟩

/-- the item of an Id -/
def findI (l : List It) (id : Int) : Option It := if mayI l then l.find? (fun x => x.1 == id) else none
theorem risI_of (l : List It) (h : mayI l = true) : risI 0 l = true := by simp [mayI] at h; exact h.2
theorem mayI_len (l : List It) (h : mayI l = true) : l.length ≤ 40 := by simp [mayI] at h; exact h.1
theorem findI_has (l : List It) (id : Int) (hm : mayI l = true) : (findI l id).isSome = hasI l id := by
  simp only [findI, hm, if_true, hasI, List.find?_isSome]
  rw [Bool.eq_iff_iff]; simp
theorem pos_has (l : List It) (id : Int) (hm : risI 0 l = true) (h : hasI l id = true) : ∃ hp : posI l id < l.length, l[posI l id].1 = id ∧ l.find? (fun x => x.1 == id) = some l[posI l id] := by
  obtain ⟨q, hq, he⟩ := (hasI_iff l id).1 h
  have hlt := risI_lt 0 l hm
  have hp : posI l id = q := posI_of l id q (by omega) (fun p hp hpq => by have := hlt p q hq hpq; omega) (fun p hp hpq => by
    by_cases e : p = q
    · subst e; omega
    · have := hlt q p hp (by omega); omega)
  rw [hp]
  refine ⟨hq, he, ?_⟩
  rw [List.find?_eq_some_iff_getElem]
  refine ⟨by simpa using he, q, hq, rfl, fun j hj => ?_⟩
  have := hlt j q hq hj
  simp; omega

end Go.Proofs.Ytkgebhmlogddcaa
