/- Contracts of the layer ghost: merging contacts by masks, in and out of a mask. -/
import Derived.Test.YtkgebhmlogddcaaKit
namespace Go.Proofs.Ytkgebhmlogddcaa
open Go.RowKit
set_option linter.unusedSimpArgs false
attribute [local go_sem] rowAt_alloc_at rowAt_alloc_past rowOk_alloc_at rowOk_alloc_past rowAt_drew rowOk_drew setRow_alloc_at setRow_alloc_past rowAt_setRow rowAt_setRow_far rowOk_setRow cell_rowOk frozen_rowOk setCell_rowOk setRow_setRow con_fold con_get con_size con_set set_all none8_cells equalIn_con storeCells_con

def bit (m : Int) (p : Nat) : Bool := m.toNat.testBit p

theorem byte_bit : ∀ m : Nat, m < 256 → ∀ p : Nat, p < 8 → (bits BinOp.and IntKind.u8 (m : Int) (2 ^ p % 256) != 0) = m.testBit p := by
  decide +kernel

set_option maxHeartbeats 400000 in
theorem in_any (m : Int) (p : Nat) (w : World) (h8 : p < 8) (m0 : 0 ≤ m) (m1 : m < 256) :
    Calls Try.prog 73 #[.int .u8 m, .int .i64 (p : Int)] w fun e w' => e = .returned (.bool (bit m p)) ∧ w = w' := by
  have hb := Lib.hid (byte_bit m.toNat (by omega) p h8)
  go_enter Try.func73, Try.ntmps73
  go_wp2
  go_ret
  have h1 := hb.out
  have e1 : ((m.toNat : Nat) : Int) = m := by omega
  rw [e1] at h1
  exact ⟨by simp [bit, ← h1], rfl⟩

def mg1 (f g : Con) (gi : Int) (li : Bool) (su : Int) (p : Nat) (h : p < 8) : ByteArray :=
  if bit gi p then g[p] else if li && bit su p then ⟨#[]⟩ else f[p]
/-- a contact that is changed -/
def mg (f g : Con) (gi : Int) (li : Bool) (su : Int) : Con := Vector.ofFn fun p => mg1 f g gi li su p.1 p.2
/-- behind k rounds -/
def stage (k : Nat) (h f : Con) : Con := Vector.ofFn fun p => if p.1 < k then h[p.1] else f[p.1]
theorem stage_zero (h f : Con) : stage 0 h f = f := by apply Vector.ext; intro i hi; simp [stage]
theorem stage_succ (h f : Con) (k : Nat) (hk : k < 8) : stage (k + 1) h f = (stage k h f).set k h[k] := by
  apply Vector.ext; intro i hi
  by_cases e : k = i
  · subst e; simp [stage]
  · simp only [stage, Vector.getElem_ofFn, Vector.getElem_set, e, if_false]
    by_cases h1 : i < k
    · rw [if_pos h1, if_pos (by omega)]
    · rw [if_neg h1, if_neg (by omega)]
theorem stage_eight (h f : Con) : stage 8 h f = h := by apply Vector.ext; intro i hi; simp [stage]
theorem stage_get (h f : Con) (k : Nat) (hk : k < 8) : (stage k h f)[k] = f[k] := by simp [stage]
theorem set_same (c : Con) (k : Nat) (hk : k < 8) (x : ByteArray) (h : c[k] = x) : c.set k x = c := by
  apply Vector.ext; intro i hi; simp only [Vector.getElem_set]; split
  · rename_i e; subst e; exact h.symm
  · rfl
theorem mg_get (f g : Con) (gi : Int) (li : Bool) (su : Int) (k : Nat) (hk : k < 8) : (mg f g gi li su)[k] = mg1 f g gi li su k hk := by simp [mg]

set_option maxHeartbeats 800000 in
theorem merge_any (f g : Con) (gi su : Int) (li : Bool) (w : World) (g0 : 0 ≤ gi) (g1 : gi < 256) (s0 : 0 ≤ su) (s1 : su < 256) :
    Calls Try.prog 58 #[.agg (con f), .int .u8 gi, .agg (con g), .bool li, .int .u8 su] w fun e w' => e = .returned (.agg (con (mg f g gi li su))) ∧ Below w.heap.size w w' := by
  cases li
  all_goals
    generalize hM0 : mg f g gi _ su = M
    have HM := Lib.hid hM0
    clear hM0
    go_enter Try.func58, Try.ntmps58
    go_wp2
    go_loopw [12] (fun i wr => ∃ k : Nat, k ≤ 8 ∧ i = .int .i64 k ∧ wr = ((w.alloc (Obj.cells (con (stage k M f)) 26)).alloc (Obj.cells (con g) 26)).alloc (Obj.cells (con none8) 26)) (fun i _ => 8 - (intOf i).toNat)
    case atStart => exact ⟨0, by omega, rfl, by rw [stage_zero]⟩
    case round =>
      obtain ⟨k, hk, rfl, rfl⟩ := hrel
      by_cases hlt : k < 8
      · have HN := Lib.hid (stage_succ M f k hlt)
        have HC := Lib.hid (stage_get M f k hlt)
        have HG := Lib.hid (show M[k] = _ from by rw [← HM.out, mg_get _ _ _ _ _ _ hlt, mg1])
        generalize hS0 : stage k M f = S at *
        have HS := Lib.hid hS0
        clear hS0
        rcases Bool.eq_false_or_eq_true (bit gi k) with hb | hb <;> rcases Bool.eq_false_or_eq_true (bit su k) with hs | hs
        all_goals
          go_wp2_with (first | (go_at_call 73; refine (in_any _ _ _ (by omega) (by omega) (by omega)).mono ?_; rintro e w' ⟨rfl, rfl⟩))
          go_roundw
          case rel => exact ⟨k + 1, by omega, by go_num, by rw [HN.out, HG.out, hb, hs]; first | rfl | (simp only [Bool.false_eq_true, if_false, Bool.and_false, Bool.false_and]; rw [set_same _ _ _ _ HC.out])⟩
          case measure => simp [intOf]; omega
      · rw [show stage k M f = M from by obtain rfl : k = 8 := by omega
                                         exact stage_eight _ _]
        go_wp2
        exact bodyPost_ret (results_con rfl _ _ (w.heap.size + 1 + 1) M rfl (by simp [go_sem]) (by simp [go_sem])) rfl
          ⟨rfl, (((Below.refl _ _).alloc (Nat.le_refl _) _).alloc (by simp) _).alloc (by simp; omega) _⟩


theorem byte_shr (m : Int) (k : Nat) (m0 : 0 ≤ m) (m1 : m < 256) (hk : k < 8) : (bits BinOp.and IntKind.u8 (m / 2 ^ k) 1 == 1) = bit m k := by
  have h : ∀ m : Nat, m < 256 → ∀ k : Nat, k < 8 → (bits BinOp.and IntKind.u8 ((m : Int) / 2 ^ k) 1 == 1) = m.testBit k := by decide +kernel
  have h1 := h m.toNat (by omega) k hk
  rw [show ((m.toNat : Nat) : Int) = m from by omega] at h1
  exact h1


set_option maxHeartbeats 400000 in
theorem refin_any (m : Int) (p : Nat) (w : World) (h8 : p < 8) (m0 : 0 ≤ m) (m1 : m < 256) :
    Calls Try.prog 91 #[.int .u8 m, .int .i64 (p : Int)] w fun e w' => e = .returned (.bool (bit m p)) ∧ w = w' := by
  have hb := byte_shr m p m0 m1 h8
  go_enter Try.func91, Try.ntmps91
  go_wp2
  go_ret
  exact ⟨rfl, rfl⟩


set_option maxHeartbeats 800000 in
theorem refonly_any (f : Con) (gi : Int) (w : World) (g0 : 0 ≤ gi) (g1 : gi < 256) :
    Calls Try.prog 75 #[.agg (con f), .int .u8 gi] w fun e w' => e = .returned (.agg (con (mg none8 f gi false 0))) ∧ Below w.heap.size w w' := by
  generalize hM0 : mg none8 f gi false 0 = M
  have HM := Lib.hid hM0
  clear hM0
  go_enter Try.func75, Try.ntmps75
  go_wp2
  go_loopw [6] (fun i wr => ∃ k : Nat, k ≤ 8 ∧ i = .int .i64 k ∧ wr = ((w.alloc (Obj.cells (con f) 26)).alloc (Obj.cells (con none8) 26)).alloc (Obj.cells (con (stage k M none8)) 26)) (fun i _ => 8 - (intOf i).toNat)
  case atStart => exact ⟨0, by omega, rfl, by rw [stage_zero]⟩
  case round =>
    obtain ⟨k, hk, rfl, rfl⟩ := hrel
    by_cases hlt : k < 8
    · have HN := Lib.hid (stage_succ M none8 k hlt)
      have HC := Lib.hid (stage_get M none8 k hlt)
      have HG := Lib.hid (show M[k] = _ from by rw [← HM.out, mg_get _ _ _ _ _ _ hlt, mg1])
      generalize hS0 : stage k M none8 = S at *
      have HS := Lib.hid hS0
      clear hS0
      rcases Bool.eq_false_or_eq_true (bit gi k) with hb | hb
      all_goals
        go_wp2_with (first | (go_at_call 91; refine (refin_any _ _ _ (by omega) (by omega) (by omega)).mono ?_; rintro e w' ⟨rfl, rfl⟩))
        go_roundw
        case rel => exact ⟨k + 1, by omega, by go_num, by rw [HN.out, HG.out, hb]; first | rfl | (simp only [Bool.false_eq_true, if_false, if_true, Bool.and_false, Bool.false_and, Bool.and_true, Bool.true_and]; rw [set_same _ _ _ _ HC.out])⟩
        case measure => simp [intOf]; omega
    · rw [show stage k M none8 = M from by obtain rfl : k = 8 := by omega
                                           exact stage_eight _ _]
      go_wp2
      exact bodyPost_ret (results_con rfl _ _ (w.heap.size + 1) M rfl (by simp [go_sem]) (by simp [go_sem])) rfl
        ⟨rfl, ((New.rfl' w).alloc' _).alloc' _ |>.alloc' _⟩

/-- the properties of a mask are alike just if they are one by one -/
theorem only_eq_iff (a b : Con) (m : Int) : (mg none8 a m false 0 = mg none8 b m false 0) ↔ ∀ p, (h : p < 8) → bit m p = true → a[p] = b[p] := by
  constructor
  · intro h p hp hb
    have h1 := mg_get none8 a m false 0 p hp
    rw [h, mg_get none8 b m false 0 p hp, mg1, mg1, if_pos hb, if_pos hb] at h1
    exact h1.symm
  · intro h
    apply Vector.ext
    intro i hi
    rw [mg_get _ _ _ _ _ i hi, mg_get _ _ _ _ _ i hi, mg1, mg1]
    by_cases hb : bit m i = true
    · rw [if_pos hb, if_pos hb, h i hi hb]
    · rw [if_neg hb, if_neg hb]

end Go.Proofs.Ytkgebhmlogddcaa
