/- Contracts of the reference of the layer ghost: they come to the very same. -/
import Derived.Test.YtaiejpjiacnfpaaEach
namespace Go.Proofs.Ytaiejpjiacnfpaa
open Go.RowKit
set_option linter.unusedSimpArgs false
attribute [local go_sem] rowAt_alloc_at rowAt_alloc_past rowOk_alloc_at rowOk_alloc_past rowAt_drew rowOk_drew setRow_alloc_at setRow_alloc_past rowAt_setRow rowAt_setRow_far rowOk_setRow cell_rowOk frozen_rowOk setCell_rowOk setRow_setRow con_fold con_get con_size con_set set_all none8_cells equalIn_con storeCells_con

set_option maxHeartbeats 400000 in
theorem refin_any (m : Int) (p : Nat) (w : World) (h8 : p < 8) (m0 : 0 ≤ m) (m1 : m < 256) :
    Calls Try.prog 25 #[.int .u8 m, .int .i64 (p : Int)] w fun e w' => e = .returned (.bool (bit m p)) ∧ w = w' := by
  have hb := byte_shr m p m0 m1 h8
  go_enter Try.func25, Try.ntmps25
  go_wp2
  go_ret
  exact ⟨rfl, rfl⟩

set_option maxHeartbeats 800000 in
theorem refmerge_any (f g : Con) (gi su : Int) (li : Bool) (w : World) (g0 : 0 ≤ gi) (g1 : gi < 256) (s0 : 0 ≤ su) (s1 : su < 256) :
    Calls Try.prog 18 #[.agg (con f), .int .u8 gi, .agg (con g), .bool li, .int .u8 su] w fun e w' => e = .returned (.agg (con (mg f g gi li su))) ∧ Below w.heap.size w w' := by
  cases li
  all_goals
    generalize hM0 : mg f g gi _ su = M
    have HM := Lib.hid hM0
    clear hM0
    go_enter Try.func18, Try.ntmps18
    go_wp2
    go_loopw [12] (fun i wr => ∃ k : Nat, k ≤ 8 ∧ i = .int .i64 k ∧ wr = (((w.alloc (Obj.cells (con f) 23)).alloc (Obj.cells (con g) 23)).alloc (Obj.cells (con none8) 23)).alloc (Obj.cells (con (stage k M none8)) 23)) (fun i _ => 8 - (intOf i).toNat)
    case atStart => exact ⟨0, by omega, rfl, by rw [stage_zero]⟩
    case round =>
      obtain ⟨k, hk, rfl, rfl⟩ := hrel
      by_cases hlt : k < 8
      · have HN := Lib.hid (stage_succ M none8 k hlt)
        have HC := Lib.hid (stage_get M none8 k hlt)
        have HG := Lib.hid (show M[k] = _ from by rw [← HM.out, mg_get _ _ _ _ _ _ hlt, mg1])
        generalize hS0 : stage k M none8 = S at *
        have HS := Lib.hid hS0
        clear hS0
        rcases Bool.eq_false_or_eq_true (bit gi k) with hb | hb <;> rcases Bool.eq_false_or_eq_true (bit su k) with hs | hs
        all_goals
          go_wp2_with (first | (go_at_call 25; refine (refin_any _ _ _ (by omega) (by omega) (by omega)).mono ?_; rintro e w' ⟨rfl, rfl⟩))
          go_roundw
          case rel => exact ⟨k + 1, by omega, by go_num, by rw [HN.out, HG.out, hb, hs]; first | rfl | (simp only [Bool.false_eq_true, if_false, if_true, Bool.and_false, Bool.false_and, Bool.and_true, Bool.true_and]; rw [set_same _ _ _ _ (HC.out.trans (by simp [none8]))])⟩
          case measure => simp [intOf]; omega
      · rw [show stage k M none8 = M from by obtain rfl : k = 8 := by omega
                                             exact stage_eight _ _]
        go_wp2
        exact bodyPost_ret (results_con rfl _ _ (w.heap.size + 1 + 1) M rfl (by simp [go_sem]) (by simp [go_sem])) rfl
          ⟨rfl, (((New.rfl' w).alloc' _).alloc' _).alloc' _ |>.alloc' _⟩

set_option maxHeartbeats 800000 in
theorem refonly_any (f : Con) (gi : Int) (w : World) (g0 : 0 ≤ gi) (g1 : gi < 256) :
    Calls Try.prog 19 #[.agg (con f), .int .u8 gi] w fun e w' => e = .returned (.agg (con (mg none8 f gi false 0))) ∧ Below w.heap.size w w' := by
  generalize hM0 : mg none8 f gi false 0 = M
  have HM := Lib.hid hM0
  clear hM0
  go_enter Try.func19, Try.ntmps19
  go_wp2
  go_loopw [6] (fun i wr => ∃ k : Nat, k ≤ 8 ∧ i = .int .i64 k ∧ wr = ((w.alloc (Obj.cells (con f) 23)).alloc (Obj.cells (con none8) 23)).alloc (Obj.cells (con (stage k M none8)) 23)) (fun i _ => 8 - (intOf i).toNat)
  case atStart => exact ⟨0, by omega, rfl, by rw [stage_zero]⟩
  case round =>
    obtain ⟨k, hk, rfl, rfl⟩ := hrel
    by_cases hlt : k < 8
    · have HN := Lib.hid (stage_succ M none8 k hlt)
      have HC := Lib.hid (stage_get M none8 k hlt)
      have HG := Lib.hid (show M[k] = _ from by rw [← HM.out, mg_get _ _ _ _ _ _ hlt, mg1])
      generalize hS0 : stage k M none8 = S at *
      have HS := Lib.hid hS0
      clear hS0
      rcases Bool.eq_false_or_eq_true (bit gi k) with hb | hb
      all_goals
        go_wp2_with (first | (go_at_call 25; refine (refin_any _ _ _ (by omega) (by omega) (by omega)).mono ?_; rintro e w' ⟨rfl, rfl⟩))
        go_roundw
        case rel => exact ⟨k + 1, by omega, by go_num, by rw [HN.out, HG.out, hb]; first | rfl | (simp only [Bool.false_eq_true, if_false, if_true, Bool.and_false, Bool.false_and, Bool.and_true, Bool.true_and]; rw [set_same _ _ _ _ HC.out])⟩
        case measure => simp [intOf]; omega
    · rw [show stage k M none8 = M from by obtain rfl : k = 8 := by omega
                                           exact stage_eight _ _]
      go_wp2
      exact bodyPost_ret (results_con rfl _ _ (w.heap.size + 1) M rfl (by simp [go_sem]) (by simp [go_sem])) rfl
        ⟨rfl, ((New.rfl' w).alloc' _).alloc' _ |>.alloc' _⟩

/-- the properties of a mask are alike just if they are one by one -/
theorem only_eq_iff (a b : Con) (m : Int) : (mg none8 a m false 0 = mg none8 b m false 0) ↔ ∀ p, (h : p < 8) → bit m p = true → a[p] = b[p] := by
  constructor
  · intro h p hp hb
    have h1 := mg_get none8 a m false 0 p hp
    rw [h, mg_get none8 b m false 0 p hp, mg1, mg1, if_pos hb, if_pos hb] at h1
    exact h1.symm
  · intro h
    apply Vector.ext
    intro i hi
    rw [mg_get _ _ _ _ _ i hi, mg_get _ _ _ _ _ i hi, mg1, mg1]
    by_cases hb : bit m i = true
    · rw [if_pos hb, if_pos hb, h i hi hb]
    · rw [if_neg hb, if_neg hb]

set_option maxHeartbeats 800000 in
theorem refsame_any (a b : Con) (m : Int) (w : World) (m0 : 0 ≤ m) (m1 : m < 256) :
    Calls Try.prog 20 #[.agg (con a), .agg (con b), .int .u8 m] w fun e w' => e = .returned (.bool (decide (mg none8 a m false 0 = mg none8 b m false 0))) ∧ Below w.heap.size w w' := by
  go_enter Try.func20, Try.ntmps20
  go_wp2_with fail
  have hnW : New w ((w.alloc (Obj.cells (con a) 23)).alloc (Obj.cells (con b) 23)) := ((New.rfl' w).alloc' _).alloc' _
  generalize hW : ((w.alloc (Obj.cells (con a) 23)).alloc (Obj.cells (con b) 23)) = W at *
  have hWz0 : w.heap.size < W.heap.size := by rw [← hW]; simp only [World.size_alloc]; omega
  have hWa0 : rowAt W (w.heap.size) = con a := by rw [← hW]; simp [go_sem]
  have hWo0 : rowOk W (w.heap.size) = true := by rw [← hW]; simp [go_sem]
  have hWz1 : w.heap.size + 1 < W.heap.size := by rw [← hW]; simp only [World.size_alloc]; omega
  have hWa1 : rowAt W (w.heap.size + 1) = con b := by rw [← hW]; simp [go_sem]
  have hWo1 : rowOk W (w.heap.size + 1) = true := by rw [← hW]; simp [go_sem]
  clear hW
  have hWA := fun w' (h : New W w') n hn => rowAt_below h n hn
  have hWO := fun w' (h : New W w') n hn => rowOk_below h n hn
  have hWS := fun w' (h : New W w') n (hn : n < W.heap.size) => eq_true (Nat.lt_of_lt_of_le hn h.size)
  go_loopw [7] (fun i wr => ∃ k : Nat, k ≤ 8 ∧ i = .int .i64 k ∧ New W wr ∧ Hid (∀ p, (h : p < 8) → p < k → bit m p = true → a[p] = b[p])) (fun i _ => 8 - (intOf i).toNat)
  case atStart => exact ⟨0, by omega, rfl, New.rfl' W, fun p hp h => by omega⟩
  case round =>
    obtain ⟨k, hk, rfl, hr, hq⟩ := hrel
    by_cases hlt : k < 8
    · rcases Bool.eq_false_or_eq_true (bit m k) with hb | hb
      · by_cases he : a[k] = b[k]
        all_goals
          have ht := bytes_eq_iff a[k] b[k]
          have HE := Lib.hid he
          first | rw [decide_eq_true he] at ht | rw [decide_eq_false he] at ht
          clear he
          go_wp2_with fail
          go_region_held3 (fun w' => New W w') (first | exact New.drew' hr | exact (by assumption))
            (first | (go_at_call 25; refine (refin_any _ _ _ (by omega) (by omega) (by omega)).mono ?_; rintro e w' ⟨rfl, rfl⟩))
          go_wp2_with fail
        · go_roundw
          case rel =>
            refine ⟨k + 1, by omega, by go_num, by assumption, ?_⟩
            intro p hp hpk hbp
            by_cases e : p = k
            · subst e; exact HE.out
            · exact hq.out p hp (by omega) hbp
          case measure => simp [intOf]; omega
        · go_ret
          exact ⟨by rw [decide_eq_false (fun h => HE.out ((only_eq_iff a b m).1 h k hlt hb))]; rfl, hnW.call (by assumption)⟩
      · go_wp2_with fail
        go_quiet ((go_at_call 25; exact Calls.quiet_of_same ((refin_any _ _ _ (by omega) (by omega) (by omega)).mono fun _ _ ⟨h1, h2⟩ => ⟨h1, h2.symm⟩)))
        have hr2 : ∀ nq, New W (wr.drewN nq) := fun nq => below_drewN hr nq
        go_wp2_with fail
        go_roundw
        case rel =>
          refine ⟨k + 1, by omega, by go_num, hr2 _, ?_⟩
          intro p hp hpk hbp
          by_cases e : p = k
          · subst e; rw [hb] at hbp; cases hbp
          · exact hq.out p hp (by omega) hbp
        case measure => simp [intOf]; omega
    · go_wp2
      go_ret
      exact ⟨by rw [decide_eq_true ((only_eq_iff a b m).2 fun p hp hb => hq.out p hp (by omega) hb)]; rfl, hnW.call (by assumption)⟩

theorem mask8_halves (f : Nat → Bool) (j : Nat) (h : j < 8) : mask8 f / 2 ^ j = 2 * (mask8 f / 2 ^ (j + 1)) + (if f j then 1 else 0) := by
  have h1 := mask8_bit f j h
  rw [Nat.testBit_eq_decide_div_mod_eq] at h1
  rw [Nat.pow_succ, ← Nat.div_div_eq_div_mul]
  cases hf : f j <;> rw [hf] at h1 <;> simp at h1 ⊢ <;> omega
theorem mask8_end (f : Nat → Bool) : mask8 f / 2 ^ 8 = 0 := by
  have := mask8_lt f
  omega

set_option maxHeartbeats 800000 in
theorem refunlike_any (a b : Con) (w : World) :
    Calls Try.prog 21 #[.agg (con a), .agg (con b)] w fun e w' => e = .returned (.int .u8 (unl a b : Nat)) ∧ Below w.heap.size w w' := by
  go_enter Try.func21, Try.ntmps21
  go_wp2_with fail
  have hnW : New w ((w.alloc (Obj.cells (con a) 23)).alloc (Obj.cells (con b) 23)) := ((New.rfl' w).alloc' _).alloc' _
  generalize hW : ((w.alloc (Obj.cells (con a) 23)).alloc (Obj.cells (con b) 23)) = W at *
  have hWz0 : w.heap.size < W.heap.size := by rw [← hW]; simp only [World.size_alloc]; omega
  have hWa0 : rowAt W (w.heap.size) = con a := by rw [← hW]; simp [go_sem]
  have hWo0 : rowOk W (w.heap.size) = true := by rw [← hW]; simp [go_sem]
  have hWz1 : w.heap.size + 1 < W.heap.size := by rw [← hW]; simp only [World.size_alloc]; omega
  have hWa1 : rowAt W (w.heap.size + 1) = con b := by rw [← hW]; simp [go_sem]
  have hWo1 : rowOk W (w.heap.size + 1) = true := by rw [← hW]; simp [go_sem]
  clear hW
  have hWA := fun w' (h : New W w') n hn => rowAt_below h n hn
  have hWO := fun w' (h : New W w') n hn => rowOk_below h n hn
  have hWS := fun w' (h : New W w') n (hn : n < W.heap.size) => eq_true (Nat.lt_of_lt_of_le hn h.size)
  go_loopw [5, 6] (fun v i wr => ∃ (j m : Nat), j ≤ 8 ∧ i = .int .i64 ((j : Int) - 1) ∧ v = .int .u8 m ∧ New W wr ∧ m < 2 ^ (8 - j) ∧ Hid (m = unl a b / 2 ^ j)) (fun _ i _ => (intOf i + 1).toNat)
  case atStart => exact ⟨8, 0, by omega, rfl, rfl, New.rfl' W, by omega, (mask8_end _).symm⟩
  case round =>
    obtain ⟨j, m, hj, rfl, rfl, hr, hm, hq⟩ := hrel
    rcases j with _ | k
    · go_wp2
      go_ret
      exact ⟨by rw [hq.out]; simp, hnW.call (by assumption)⟩
    · rw [show ((k + 1 : Nat) : Int) - 1 = (k : Int) from by omega]
      have hk : k < 8 := by omega
      have h2 : (2 : Nat) ^ (8 - (k + 1)) ≤ 2 ^ 7 := Nat.pow_le_pow_right (by omega) (by omega)
      have hm7 : m < 128 := by omega
      have hs := mask8_halves (fun p => decide (a[p]! ≠ b[p]!)) k hk
      have hp2 : 2 ^ (8 - k) = 2 * 2 ^ (8 - (k + 1)) := by rw [show 8 - k = (8 - (k + 1)) + 1 from by omega, Nat.pow_succ]; omega
      simp only [hk, getElem!_pos] at hs
      change unl a b / 2 ^ k = _ at hs
      change _ = 2 * (unl a b / 2 ^ (k + 1)) + _ at hs
      rw [← hq.out] at hs
      have HM := Lib.hid hm
      have HS := Lib.hid hs
      have HP := Lib.hid hp2
      clear hm hs hp2 h2 hj
      have hk1 : (k : Int) < 8 := by omega
      by_cases he : a[k] = b[k]
      · have ht := bytes_eq_iff a[k] b[k]
        have HE := Lib.hid he
        rw [decide_eq_true he] at ht
        clear he
        go_wp2_with fail
        go_region_held3 (fun w' => New W w') (first | exact New.drew' hr | exact (by assumption)) (fail)
        go_wp2_with fail
        go_roundw
        case rel => exact ⟨k, 2 * m, by omega, by go_num, by go_num, by assumption, by have h1 := HM.out; have h2 := HP.out; omega, by have h3 := HS.out; have h4 := HE.out; simp [h4] at h3; exact h3.symm⟩
        case measure => simp [intOf]
      · have ht := bytes_eq_iff a[k] b[k]
        have HE := Lib.hid he
        rw [decide_eq_false he] at ht
        clear he
        go_wp2_with fail
        go_region_held3 (fun w' => New W w') (first | exact New.drew' hr | exact (by assumption)) (fail)
        go_wp2_with fail
        go_roundw
        case rel => exact ⟨k, 2 * m + 1, by omega, by go_num, by go_num, by assumption, by have h1 := HM.out; have h2 := HP.out; omega, by have h3 := HS.out; have h4 := HE.out; simp [h4] at h3; exact h3.symm⟩
        case measure => simp [intOf]

/-- the properties that a device has -/
def hasOf (li : Bool) (su : Int) : Int := if li then su else 255
theorem has_any (li : Bool) (su : Int) (w : World) : Calls Try.prog 22 #[.bool li, .int .u8 su] w fun e w' => e = .returned (.int .u8 (hasOf li su)) ∧ w = w' := by
  cases li <;> (go_enter Try.func22, Try.ntmps22; go_wp2; go_ret; exact ⟨rfl, rfl⟩)
theorem refhas_any (li : Bool) (su : Int) (w : World) : Calls Try.prog 23 #[.bool li, .int .u8 su] w fun e w' => e = .returned (.int .u8 (hasOf li su)) ∧ w = w' := by
  cases li <;> (go_enter Try.func23, Try.ntmps23; go_wp2; go_ret; exact ⟨rfl, rfl⟩)
end Go.Proofs.Ytaiejpjiacnfpaa
