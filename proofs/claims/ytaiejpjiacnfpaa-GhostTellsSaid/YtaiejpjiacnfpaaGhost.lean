/- Contracts of the layer ghost: merging contacts by masks, in and out of a mask. -/
import Derived.Test.YtaiejpjiacnfpaaKit
namespace Go.Proofs.Ytaiejpjiacnfpaa
open Go.RowKit
set_option linter.unusedSimpArgs false
attribute [local go_sem] rowAt_alloc_at rowAt_alloc_past rowOk_alloc_at rowOk_alloc_past rowAt_drew rowOk_drew setRow_alloc_at setRow_alloc_past rowAt_setRow rowAt_setRow_far rowOk_setRow cell_rowOk frozen_rowOk setCell_rowOk setRow_setRow con_fold con_get con_size con_set set_all none8_cells equalIn_con storeCells_con

def bit (m : Int) (p : Nat) : Bool := m.toNat.testBit p

theorem byte_bit : ∀ m : Nat, m < 256 → ∀ p : Nat, p < 8 → (bits BinOp.and IntKind.u8 (m : Int) (2 ^ p % 256) != 0) = m.testBit p := by
  decide +kernel

set_option maxHeartbeats 400000 in
theorem in_any (m : Int) (p : Nat) (w : World) (h8 : p < 8) (m0 : 0 ≤ m) (m1 : m < 256) :
    Calls Try.prog 24 #[.int .u8 m, .int .i64 (p : Int)] w fun e w' => e = .returned (.bool (bit m p)) ∧ w = w' := by
  have hb := Lib.hid (byte_bit m.toNat (by omega) p h8)
  go_enter Try.func24, Try.ntmps24
  go_wp2
  go_ret
  have h1 := hb.out
  have e1 : ((m.toNat : Nat) : Int) = m := by omega
  rw [e1] at h1
  exact ⟨by simp [bit, ← h1], rfl⟩

def mg1 (f g : Con) (gi : Int) (li : Bool) (su : Int) (p : Nat) (h : p < 8) : ByteArray :=
  if bit gi p then g[p] else if li && bit su p then ⟨#[]⟩ else f[p]
/-- a contact that is changed -/
def mg (f g : Con) (gi : Int) (li : Bool) (su : Int) : Con := Vector.ofFn fun p => mg1 f g gi li su p.1 p.2
/-- behind k rounds -/
def stage (k : Nat) (h f : Con) : Con := Vector.ofFn fun p => if p.1 < k then h[p.1] else f[p.1]
theorem stage_zero (h f : Con) : stage 0 h f = f := by apply Vector.ext; intro i hi; simp [stage]
theorem stage_succ (h f : Con) (k : Nat) (hk : k < 8) : stage (k + 1) h f = (stage k h f).set k h[k] := by
  apply Vector.ext; intro i hi
  by_cases e : k = i
  · subst e; simp [stage]
  · simp only [stage, Vector.getElem_ofFn, Vector.getElem_set, e, if_false]
    by_cases h1 : i < k
    · rw [if_pos h1, if_pos (by omega)]
    · rw [if_neg h1, if_neg (by omega)]
theorem stage_eight (h f : Con) : stage 8 h f = h := by apply Vector.ext; intro i hi; simp [stage]
theorem stage_get (h f : Con) (k : Nat) (hk : k < 8) : (stage k h f)[k] = f[k] := by simp [stage]
theorem set_same (c : Con) (k : Nat) (hk : k < 8) (x : ByteArray) (h : c[k] = x) : c.set k x = c := by
  apply Vector.ext; intro i hi; simp only [Vector.getElem_set]; split
  · rename_i e; subst e; exact h.symm
  · rfl
theorem mg_get (f g : Con) (gi : Int) (li : Bool) (su : Int) (k : Nat) (hk : k < 8) : (mg f g gi li su)[k] = mg1 f g gi li su k hk := by simp [mg]

set_option maxHeartbeats 800000 in
theorem merge_any (f g : Con) (gi su : Int) (li : Bool) (w : World) (g0 : 0 ≤ gi) (g1 : gi < 256) (s0 : 0 ≤ su) (s1 : su < 256) :
    Calls Try.prog 8 #[.agg (con f), .int .u8 gi, .agg (con g), .bool li, .int .u8 su] w fun e w' => e = .returned (.agg (con (mg f g gi li su))) ∧ Below w.heap.size w w' := by
  cases li
  all_goals
    generalize hM0 : mg f g gi _ su = M
    have HM := Lib.hid hM0
    clear hM0
    go_enter Try.func8, Try.ntmps8
    go_wp2
    go_loopw [12] (fun i wr => ∃ k : Nat, k ≤ 8 ∧ i = .int .i64 k ∧ wr = ((w.alloc (Obj.cells (con (stage k M f)) 23)).alloc (Obj.cells (con g) 23)).alloc (Obj.cells (con none8) 23)) (fun i _ => 8 - (intOf i).toNat)
    case atStart => exact ⟨0, by omega, rfl, by rw [stage_zero]⟩
    case round =>
      obtain ⟨k, hk, rfl, rfl⟩ := hrel
      by_cases hlt : k < 8
      · have HN := Lib.hid (stage_succ M f k hlt)
        have HC := Lib.hid (stage_get M f k hlt)
        have HG := Lib.hid (show M[k] = _ from by rw [← HM.out, mg_get _ _ _ _ _ _ hlt, mg1])
        generalize hS0 : stage k M f = S at *
        have HS := Lib.hid hS0
        clear hS0
        rcases Bool.eq_false_or_eq_true (bit gi k) with hb | hb <;> rcases Bool.eq_false_or_eq_true (bit su k) with hs | hs
        all_goals
          go_wp2_with (first | (go_at_call 24; refine (in_any _ _ _ (by omega) (by omega) (by omega)).mono ?_; rintro e w' ⟨rfl, rfl⟩))
          go_roundw
          case rel => exact ⟨k + 1, by omega, by go_num, by rw [HN.out, HG.out, hb, hs]; first | rfl | (simp only [Bool.false_eq_true, if_false, Bool.and_false, Bool.false_and]; rw [set_same _ _ _ _ HC.out])⟩
          case measure => simp [intOf]; omega
      · rw [show stage k M f = M from by obtain rfl : k = 8 := by omega
                                         exact stage_eight _ _]
        go_wp2
        exact bodyPost_ret (results_con rfl _ _ (w.heap.size + 1 + 1) M rfl (by simp [go_sem]) (by simp [go_sem])) rfl
          ⟨rfl, (((Below.refl _ _).alloc (Nat.le_refl _) _).alloc (by simp) _).alloc (by simp; omega) _⟩

set_option maxHeartbeats 400000 in
theorem only_any (c : Con) (m : Int) (w : World) (m0 : 0 ≤ m) (m1 : m < 256) :
    Calls Try.prog 11 #[.agg (con c), .int .u8 m] w fun e w' => e = .returned (.agg (con (mg none8 c m false 0))) ∧ Below w.heap.size w w' := by
  go_enter Try.func11, Try.ntmps11
  go_wp2_with (first | (go_at_call 8; refine (merge_any _ _ _ _ _ _ (by omega) (by omega) (by omega) (by omega)).mono ?_; rintro e w1 ⟨rfl, hb⟩; obtain ⟨hA, hO, hC, hZ⟩ := bfacts hb; have HB := Lib.hid hb; clear hb))
  exact bodyPost_ret (results_con rfl _ _ (w.heap.size + 1) _ rfl (by go_simp) (by go_simp)) rfl
    ⟨rfl, ((((New.rfl' w).alloc' _).alloc' _).call HB.out).row _ _ (by omega)⟩

set_option maxHeartbeats 400000 in
theorem same_any (a b : Con) (m : Int) (w : World) (m0 : 0 ≤ m) (m1 : m < 256) :
    Calls Try.prog 12 #[.agg (con a), .agg (con b), .int .u8 m] w fun e w' => e = .returned (.bool (decide (mg none8 a m false 0 = mg none8 b m false 0))) ∧ Below w.heap.size w w' := by
  go_enter Try.func12, Try.ntmps12
  go_wp2_with fail
  have hnW : New w ((w.alloc (Obj.cells (con a) 23)).alloc (Obj.cells (con b) 23)) := ((New.rfl' w).alloc' _).alloc' _
  generalize hW : ((w.alloc (Obj.cells (con a) 23)).alloc (Obj.cells (con b) 23)) = W at *
  have hWz0 : w.heap.size < W.heap.size := by rw [← hW]; simp only [World.size_alloc]; omega
  have hWa0 : rowAt W (w.heap.size) = con a := by rw [← hW]; simp [go_sem]
  have hWo0 : rowOk W (w.heap.size) = true := by rw [← hW]; simp [go_sem]
  have hWz1 : w.heap.size + 1 < W.heap.size := by rw [← hW]; simp only [World.size_alloc]; omega
  have hWa1 : rowAt W (w.heap.size + 1) = con b := by rw [← hW]; simp [go_sem]
  have hWo1 : rowOk W (w.heap.size + 1) = true := by rw [← hW]; simp [go_sem]
  clear hW
  have hWA := fun w' (h : New W w') n hn => rowAt_below h n hn
  have hWO := fun w' (h : New W w') n hn => rowOk_below h n hn
  have hWS := fun w' (h : New W w') n (hn : n < W.heap.size) => eq_true (Nat.lt_of_lt_of_le hn h.size)
  go_region_held3 (fun w' => New W w') (first | exact (New.rfl' W).drew' | exact New.call (by assumption) hb)
    (first | (go_at_call 11; refine (only_any _ _ _ (by omega) (by omega)).mono ?_; rintro e w1 ⟨rfl, hb⟩))
  go_wp2
  go_ret
  exact ⟨rfl, hnW.call (by assumption)⟩

theorem byte_or : ∀ m : Nat, m < 256 → ∀ p : Nat, p < 8 → ∃ r : Nat, r < 256 ∧ bits BinOp.or IntKind.u8 (m : Int) (2 ^ p % 256) = (r : Int) ∧ ∀ q : Nat, q < 8 → r.testBit q = (m.testBit q || q == p) := by
  intro m hm p hp
  have h : ∀ m : Nat, m < 256 → ∀ p : Nat, p < 8 → (bits BinOp.or IntKind.u8 (m : Int) (2 ^ p % 256)) = ((bits BinOp.or IntKind.u8 (m : Int) (2 ^ p % 256)).toNat : Int) ∧ (bits BinOp.or IntKind.u8 (m : Int) (2 ^ p % 256)).toNat < 256 ∧
      ∀ q : Nat, q < 8 → (bits BinOp.or IntKind.u8 (m : Int) (2 ^ p % 256)).toNat.testBit q = (m.testBit q || q == p) := by decide +kernel
  obtain ⟨h1, h2, h3⟩ := h m hm p hp
  exact ⟨_, h2, h1, h3⟩

set_option maxHeartbeats 400000 in
theorem unlike_any (a b : Con) (w : World) :
    Calls Try.prog 10 #[.agg (con a), .agg (con b)] w fun e w' => ∃ m : Nat, e = .returned (.int .u8 m) ∧ m < 256 ∧ (∀ p, (h : p < 8) → m.testBit p = decide (a[p] ≠ b[p])) ∧ Below w.heap.size w w' := by
  go_enter Try.func10, Try.ntmps10
  go_wp2_with fail
  have hnW : New w ((w.alloc (Obj.cells (con a) 23)).alloc (Obj.cells (con b) 23)) := ((New.rfl' w).alloc' _).alloc' _
  generalize hW : ((w.alloc (Obj.cells (con a) 23)).alloc (Obj.cells (con b) 23)) = W at *
  have hWz0 : w.heap.size < W.heap.size := by rw [← hW]; simp only [World.size_alloc]; omega
  have hWa0 : rowAt W (w.heap.size) = con a := by rw [← hW]; simp [go_sem]
  have hWo0 : rowOk W (w.heap.size) = true := by rw [← hW]; simp [go_sem]
  have hWz1 : w.heap.size + 1 < W.heap.size := by rw [← hW]; simp only [World.size_alloc]; omega
  have hWa1 : rowAt W (w.heap.size + 1) = con b := by rw [← hW]; simp [go_sem]
  have hWo1 : rowOk W (w.heap.size + 1) = true := by rw [← hW]; simp [go_sem]
  clear hW
  have hWA := fun w' (h : New W w') n hn => rowAt_below h n hn
  have hWO := fun w' (h : New W w') n hn => rowOk_below h n hn
  have hWS := fun w' (h : New W w') n (hn : n < W.heap.size) => eq_true (Nat.lt_of_lt_of_le hn h.size)
  go_loopw [5, 7] (fun v i wr => ∃ (k m : Nat), k ≤ 8 ∧ i = .int .i64 k ∧ v = .int .u8 m ∧ m < 256 ∧ New W wr ∧ Hid (∀ q, (h : q < 8) → m.testBit q = (decide (q < k) && decide (a[q] ≠ b[q])))) (fun _ i _ => 8 - (intOf i).toNat)
  case atStart => exact ⟨0, 0, by omega, rfl, rfl, by omega, New.rfl' W, by intro q hq; simp⟩
  case round =>
    obtain ⟨k, m, hk, rfl, rfl, hm, hr, hq⟩ := hrel
    by_cases hlt : k < 8
    · obtain ⟨r, hr1, hr2, hr3⟩ := byte_or m hm k hlt
      have HR3 := Lib.hid hr3
      clear hr3
      go_wp2_with fail
      go_region_held3 (fun w' => New W w') (first | exact New.drew' hr | exact New.call (by assumption) hb) (fail)
      go_wp2_with fail
      · have ht : (!a[k].toList == b[k].toList) = true := by assumption
        go_roundw
        case rel =>
          refine ⟨k + 1, r, by omega, by go_num, rfl, hr1, by assumption, ?_⟩
          intro q hq8
          rw [HR3.out q hq8, hq.out q hq8]
          rw [bytes_eq_iff] at ht
          by_cases e : q = k
          · subst e; simpa using ht
          · simp [e, show (q < k + 1) = (q < k) from by rw [eq_iff_iff]; omega]
        case measure => simp [intOf]; omega
      · have ht : (!a[k].toList == b[k].toList) = false := by assumption
        go_roundw
        case rel =>
          refine ⟨k + 1, m, by omega, by go_num, rfl, hm, by assumption, ?_⟩
          intro q hq8
          rw [hq.out q hq8]
          rw [bytes_eq_iff] at ht
          by_cases e : q = k
          · subst e; simpa using ht
          · simp [show (q < k + 1) = (q < k) from by rw [eq_iff_iff]; omega]
        case measure => simp [intOf]; omega
    · go_wp2
      go_ret
      refine ⟨m, rfl, hm, fun p hp => ?_, hnW.call hr⟩
      rw [hq.out p hp]
      simp [show p < k by omega]

/-- the mask of those below 8 of which something holds -/
def mask8 (f : Nat → Bool) : Nat :=
  (if f 0 then 1 else 0) + (if f 1 then 2 else 0) + (if f 2 then 4 else 0) + (if f 3 then 8 else 0) + (if f 4 then 16 else 0) + (if f 5 then 32 else 0) + (if f 6 then 64 else 0) + (if f 7 then 128 else 0)
theorem mask8_lt (f : Nat → Bool) : mask8 f < 256 := by unfold mask8; repeat (split <;> try omega)
theorem mask8_bit (f : Nat → Bool) (p : Nat) (h : p < 8) : (mask8 f).testBit p = f p := by
  have key : ∀ b0 b1 b2 b3 b4 b5 b6 b7 : Bool, ∀ p : Nat, p < 8 → ((if b0 then 1 else 0) + (if b1 then 2 else 0) + (if b2 then 4 else 0) + (if b3 then 8 else 0) + (if b4 then 16 else 0) + (if b5 then 32 else 0) + (if b6 then 64 else 0) + (if b7 then 128 else 0) : Nat).testBit p = [b0, b1, b2, b3, b4, b5, b6, b7].getD p false := by decide +kernel
  have := key (f 0) (f 1) (f 2) (f 3) (f 4) (f 5) (f 6) (f 7) p h
  unfold mask8
  rw [this]
  match p, h with
  | 0, _ | 1, _ | 2, _ | 3, _ | 4, _ | 5, _ | 6, _ | 7, _ => rfl
theorem bits_one {m n : Nat} (hm : m < 256) (hn : n < 256) (h : ∀ p, p < 8 → m.testBit p = n.testBit p) : m = n := by
  apply Nat.eq_of_testBit_eq
  intro i
  by_cases hi : i < 8
  · exact h i hi
  · have h2 : 2 ^ 8 ≤ 2 ^ i := Nat.pow_le_pow_right (by omega) (by omega)
    rw [Nat.testBit_lt_two_pow (by omega), Nat.testBit_lt_two_pow (by omega)]
/-- the mask of the properties that are not alike -/
def unl (a b : Con) : Nat := mask8 fun p => decide (a[p]! ≠ b[p]!)
theorem unlike_eq (a b : Con) (w : World) :
    Calls Try.prog 10 #[.agg (con a), .agg (con b)] w fun e w' => e = .returned (.int .u8 (unl a b : Nat)) ∧ Below w.heap.size w w' := by
  refine (unlike_any a b w).mono fun e w' ⟨m, he, hm, hq, hb⟩ => ⟨?_, hb⟩
  rw [he, bits_one hm (mask8_lt _) (n := unl a b) (fun p hp => by rw [hq p hp, unl, mask8_bit _ p hp]; simp [hp])]

abbrev vA : Con := #v[⟨#[97]⟩, ⟨#[98]⟩, ⟨#[]⟩, ⟨#[]⟩, ⟨#[]⟩, ⟨#[]⟩, ⟨#[]⟩, ⟨#[]⟩]
abbrev vC : Con := #v[⟨#[99]⟩, ⟨#[]⟩, ⟨#[]⟩, ⟨#[]⟩, ⟨#[]⟩, ⟨#[]⟩, ⟨#[]⟩, ⟨#[]⟩]
abbrev vCB : Con := #v[⟨#[99]⟩, ⟨#[98]⟩, ⟨#[]⟩, ⟨#[]⟩, ⟨#[]⟩, ⟨#[]⟩, ⟨#[]⟩, ⟨#[]⟩]
abbrev vB : Con := #v[⟨#[]⟩, ⟨#[98]⟩, ⟨#[]⟩, ⟨#[]⟩, ⟨#[]⟩, ⟨#[]⟩, ⟨#[]⟩, ⟨#[]⟩]
abbrev vAC : Con := #v[⟨#[97]⟩, ⟨#[99]⟩, ⟨#[]⟩, ⟨#[]⟩, ⟨#[]⟩, ⟨#[]⟩, ⟨#[]⟩, ⟨#[]⟩]
set_option maxHeartbeats 400000 in
theorem lives_any (w : World) : Calls Try.prog 9 #[] w fun e w' => e = .returned (.bool true) ∧ Below w.heap.size w w' := by
  have fA : (none8.set 0 ⟨#[97]⟩).set 1 ⟨#[98]⟩ = vA := rfl
  have fC : none8.set 0 ⟨#[99]⟩ = vC := rfl
  have fCB : vC.set 1 ⟨#[98]⟩ = vCB := rfl
  have fB1 : none8.set 0 ⟨#[]⟩ = none8 := rfl
  have fB : (none8.set 0 ⟨#[]⟩).set 1 ⟨#[98]⟩ = vB := rfl
  have fB2 : none8.set 1 ⟨#[98]⟩ = vB := rfl
  have fAC : (none8.set 0 ⟨#[97]⟩).set 1 ⟨#[99]⟩ = vAC := rfl
  have e1 : mg vA vC 1 false 0 = vCB := by decide +kernel
  have e2 : mg vA vC 1 true 2 = vC := by decide +kernel
  have e3 : mg vA none8 0 true 1 = vB := by decide +kernel
  have e4 : mg none8 vA 2 false 0 = vB := by decide +kernel
  have e5 : unl vA vAC = 2 := by decide +kernel
  generalize vA = xA at *
  generalize vC = xC at *
  generalize vCB = xCB at *
  generalize vB = xB at *
  generalize vAC = xAC at *
  go_enter Try.func9, Try.ntmps9
  go_wp2_with fail
  have hnW : New w (w.alloc (Obj.cells (con xA) 23)) := (New.rfl' w).alloc' _
  generalize hW : (w.alloc (Obj.cells (con xA) 23)) = W at *
  have hWz0 : w.heap.size < W.heap.size := by rw [← hW]; simp only [World.size_alloc]; omega
  have hWa0 : rowAt W (w.heap.size) = con xA := by rw [← hW]; simp [go_sem]
  have hWo0 : rowOk W (w.heap.size) = true := by rw [← hW]; simp [go_sem]
  clear hW
  have hWA := fun w' (h : New W w') n hn => rowAt_below h n hn
  have hWO := fun w' (h : New W w') n hn => rowOk_below h n hn
  have hWS := fun w' (h : New W w') n (hn : n < W.heap.size) => eq_true (Nat.lt_of_lt_of_le hn h.size)
  have hr := New.rfl' W
  go_wp2_with (first
    | (go_at_call 8; refine (merge_any _ _ _ _ _ _ (by omega) (by omega) (by omega) (by omega)).mono ?_; rintro e w1 ⟨rfl, hb⟩; have hb' := New.call (by assumption) hb; clear hb)
    | (go_at_call 11; refine (only_any _ _ _ (by omega) (by omega)).mono ?_; rintro e w1 ⟨rfl, hb⟩; have hb' := New.call (by assumption) hb; clear hb)
    | (go_at_call 10; refine (unlike_eq _ _ _).mono ?_; rintro e w1 ⟨rfl, hb⟩; have hb' := New.call (by assumption) hb; clear hb))
  go_ret
  exact ⟨rfl, hnW.call (by assumption)⟩
end Go.Proofs.Ytaiejpjiacnfpaa
