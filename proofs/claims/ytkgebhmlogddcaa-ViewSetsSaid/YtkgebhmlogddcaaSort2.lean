/- Contracts: insertion sort of a part of a row of items. -/
import Derived.Test.YtkgebhmlogddcaaSort1
import Derived.Test.YtkgebhmlogddcaaSt
namespace Go.Proofs.Ytkgebhmlogddcaa
open Go.RowKit
set_option linter.unusedSimpArgs false
attribute [local go_sem] rowAt_alloc_at rowAt_alloc_past rowOk_alloc_at rowOk_alloc_past rowAt_drew rowOk_drew setRow_alloc_at setRow_alloc_past rowAt_setRow rowAt_setRow_far rowOk_setRow cell_rowOk frozen_rowOk setCell_rowOk setRow_setRow con_fold con_get con_size con_set set_all none8_cells equalIn_con storeCells_con
attribute [local go_sem] it_size it_0 it_1 it_2 it_3 it_4 it_5 it_6 it_7 it_8 it_9 it_10 it_set0 it_set1 it_set2 it_fold it_zero it_eta it_fill run_storeCells_it
attribute [local go_sem] run_storeCells_it

theorem run_storeCells_itk (w : World) (g p : Nat) (x : It) (h : rowOk w g = true) (hs : p * 11 + 11 ≤ (rowAt w g).size) :
    (storeCells ⟨g, p * 11, none⟩ (itA x).toList).run Try.prog w = .ok () (w.setRow g (KI.putK (rowAt w g) p x)) := Kind.run_storeCells_k KI w g p x h hs
theorem call_fresh1 (args : Array Value) (w : World) : (callFunc 85 args).run Try.prog w = .ok (.enter 85 args) w := call_go Try.func85 (by kernel_rfl) (by kernel_rfl) args w
set_option maxHeartbeats 3200000 in
set_option maxRecDepth 100000 in
theorem inssort_any (L : List It) (a b g c : Nat) (w : World) (base : Nat) (h : KI.Own w base (.slice (some ⟨g, 0, none⟩) L.length c) L) (hab : a ≤ b) (hb : b ≤ L.length) (hn : L.length ≤ 1000) :
    Calls Try.prog 100 #[.slice (some ⟨g, 0, none⟩) L.length c, .int .i64 (a : Nat), .int .i64 (b : Nat), .func (.func 85) #[] #[]] w fun e w' =>
      e = .returned (.tuple #[]) ∧ KI.Own w' base (.slice (some ⟨g, 0, none⟩) L.length c) (sortSeg L a b) ∧ w.grownBy w' (some g) := by
  have iw0 : IntKind.i64.wrap ((a : Int) + 1) = (a : Int) + 1 := by rw [IntKind.wrap_i64]; omega
  go_enter Try.func100, Try.ntmps100
  go_wp2_with fail
  go_loopw [8] (fun i wr => ∃ k : Nat, a + 1 ≤ k ∧ (k ≤ b ∨ k = a + 1) ∧ i = .int .i64 k ∧ w.grownBy wr (some g) ∧ KI.Own wr base (.slice (some ⟨g, 0, none⟩) L.length c) (sortSeg L a k)) (fun i _ => b - (intOf i).toNat)
  case atStart => exact ⟨a + 1, by omega, .inr rfl, by go_num, World.grownBy.refl _ _, by rw [sortSeg_start]; exact h⟩
  case round =>
    obtain ⟨k, hak, hkb, rfl, hr, hM⟩ := hrel
    by_cases hlt : k < b
    · rw [seg_start L a k hak (by omega)] at hM
      have hse := Lib.hid (seg_end L a k hak (by omega))
      have hsl : (isort ((L.drop a).take (k - a))).length = k - a := by rw [isort_len, List.length_take, List.length_drop]; omega
      have hso := Lib.hid (isort_sorted ((L.drop a).take (k - a)))
      have hkL : k < L.length := by omega
      have hP : (L.take a).length = a := by rw [List.length_take]; omega
      have hR : (L.drop (k + 1)).length = L.length - (k + 1) := List.length_drop
      generalize isort ((L.drop a).take (k - a)) = S at *
      generalize L.take a = P at *
      generalize L.drop (k + 1) = R at *
      generalize L[k] = x at *
      have hqle := qpos_le S x
      have hqi := fun q hq => Lib.hid (qpos_iff x hso.out q hq)
      generalize qpos S x = p at *
      go_wp2_with fail
      go_loopw [9] (fun j wr2 => ∃ q : Nat, q ≤ S.length ∧ p ≤ q ∧ j = .int .i64 ((a + q : Nat) : Int) ∧ w.grownBy wr2 (some g) ∧ KI.Own wr2 base (.slice (some ⟨g, 0, none⟩) L.length c) (stageI P S R x q)) (fun j _ => (intOf j).toNat)
      case atStart => exact ⟨S.length, Nat.le_refl _, hqle, by rw [hsl, show a + (k - a) = k by omega], hr, hM⟩
      case round =>
        obtain ⟨q, hq, hpq, rfl, hr2, hM2⟩ := hrel
        cases q with
        | zero =>
          obtain rfl : p = 0 := by omega
          go_wp2_with fail
          go_quiet (fail)
          go_wp2_with fail
          go_roundw
          case rel => exact ⟨k + 1, by omega, .inl (by omega), by go_num, ⟨hr2.os, hr2.tape, hr2.output, hr2.size, hr2.block⟩, by rw [hse.out]; exact hM2⟩
          case measure => simp [intOf]; omega
        | succ q =>
          have hi := (hqi q (by omega)).out
          obtain ⟨M, hMM, e4, e1, e2, e3, hM2⟩ : ∃ M : List It, stageI P S R x (q + 1) = M ∧ M.length = L.length ∧ (∀ h : P.length + (q + 1) < M.length, M[P.length + (q + 1)] = x) ∧ (∀ h : P.length + q < M.length, M[P.length + q] = S[q]) ∧ Hid ((M.set (P.length + q + 1) S[q]).set (P.length + q) x = stageI P S R x q) ∧ KI.Own wr base (.slice (some ⟨g, 0, none⟩) L.length c) M :=
            ⟨_, rfl, by rw [stageI_len P S R x (q + 1) hq]; omega, stageI_at P S R x (q + 1) hq, stageI_below P S R x q hq, stageI_swap P S R x q hq, hM2⟩
          have hit := own_it hM2
          clear hMM
          obtain ⟨t, ht⟩ : ∃ t, a + q = t := ⟨_, rfl⟩
          simp only [hP] at e1 e2 e3
          have et : ((a + (q + 1) : Nat) : Int) = (t : Int) + 1 := by omega
          rw [et]
          have ht1 : t + 1 < M.length := by omega
          have hML := e4
          have hx1 : M[t + 1] = x := by have e5 : t + 1 = a + (q + 1) := by omega
                                        simp only [e5]; exact e1 (by omega)
          have hx0 : M[t] = S[q] := by simp only [← ht]; exact e2 (by omega)
          have hc1 : ∀ w', New wr w' → ∀ j, j < 11 → w'.cell? ⟨g, (t + 1) * 11 + j, none⟩ = (itA x)[j]? := fun w' hw j hj => by rw [← hx1]; exact hit w' hw (t + 1) ht1 j hj
          have hc0 : ∀ w', New wr w' → ∀ j, j < 11 → w'.cell? ⟨g, t * 11 + j, none⟩ = (itA S[q])[j]? := fun w' hw j hj => by rw [← hx0]; exact hit w' hw t (by omega) j hj
          have hc10 : ∀ w', New wr w' → w'.cell? ⟨g, (t + 1) * 11, none⟩ = (itA x)[0]? := fun w' hw => hc1 w' hw 0 (by decide)
          have hc00 : ∀ w', New wr w' → w'.cell? ⟨g, t * 11, none⟩ = (itA S[q])[0]? := fun w' hw => hc0 w' hw 0 (by decide)
          have iw1 : IntKind.i64.wrap ((t : Int) + 1 - 1) = (t : Int) := by rw [IntKind.wrap_i64]; omega
          have iw2 : IntKind.i64.wrap (t : Int) = (t : Int) := by rw [IntKind.wrap_i64]; omega
          have i1 : (t : Int) + 1 < (L.length : Int) := by omega
          have i2 : (t : Int) < (L.length : Int) := by omega
          have i3 : (a : Int) < (t : Int) + 1 := by omega
          have i4 : (0 : Int) ≤ (t : Int) + 1 := by omega
          have hrr := New.rfl' wr
          clear hit
          go_wp2_with fail
          go_region_held3 (fun w' => New wr w') (first | exact New.drew' hrr | exact hrr | exact hr5)
            (first
            | (go_at_call 85; refine (fresh1_any x S[q] _).mono ?_; rintro e w5 ⟨rfl, hb⟩; have hr5 := (New.drew' hrr).call hb; clear hb))
          have hM5 := hM2.new hr5
          have hg5 : w.grownBy w5 (some g) := hr2.trans ⟨hr5.os, hr5.tape, hr5.output, hr5.size, fun k hk _ => hr5.block k hk⟩
          have hz5 := hr5.size
          by_cases hcq : p ≤ q
          · have hng : cmpI x.2.2.1 S[q].2.2.1 < 0 := by rw [cmpI, if_pos (hi.2 hcq)]; decide
            obtain ⟨g', eg, -, hlc5, -, hok5, hsz5⟩ := hM5.spotK (by omega)
            injection eg with eg
            injection eg with eg _ _
            subst eg
            rw [KI_sz] at hsz5
            have hsa : (t + 1) * 11 + 11 ≤ (rowAt w5 g).size := by omega
            have hsb : t * 11 + 11 ≤ (rowAt w5 g).size := by omega
            have hsc : t * 11 + 11 ≤ (KI.putK (rowAt w5 g) (t + 1) S[q]).size := by rw [Kind.putK_size _ _ _ _ hsa]; exact hsb
            have hr5d := New.drew' hr5
            clear hsz5
            have hst1 : (storeCells ⟨g, (t + 1) * 11, none⟩ (itA S[q]).toList).run Try.prog w5.drew = .ok () (w5.drew.setRow g (KI.putK (rowAt w5 g) (t + 1) S[q])) := run_storeCells_itk w5.drew g (t + 1) S[q] hok5 hsa
            have hM6 : KI.Own (w5.drew.setRow g (KI.putK (rowAt w5 g) (t + 1) S[q])) base (.slice (some ⟨g, 0, none⟩) L.length c) (M.set (t + 1) S[q]) := Kind.Own.putK (show KI.Own w5.drew base _ M from hM5) S[q] ht1
            have hok6 : rowOk (w5.drew.setRow g (KI.putK (rowAt w5 g) (t + 1) S[q])) g = true := by rw [rowOk_setRow]; exact hok5
            have hra6 : rowAt (w5.drew.setRow g (KI.putK (rowAt w5 g) (t + 1) S[q])) g = KI.putK (rowAt w5 g) (t + 1) S[q] := rowAt_setRow w5.drew g _ hok5
            obtain ⟨W6, hW6⟩ : ∃ W6, w5.drew.setRow g (KI.putK (rowAt w5 g) (t + 1) S[q]) = W6 := ⟨_, rfl⟩
            rw [hW6] at hst1 hM6 hok6 hra6
            have hst2 : (storeCells ⟨g, t * 11, none⟩ (itA x).toList).run Try.prog W6 = .ok () (W6.setRow g (KI.putK (rowAt W6 g) t x)) := run_storeCells_itk W6 g t x hok6 (by rw [hra6]; exact hsc)
            have hM7 : KI.Own (W6.setRow g (KI.putK (rowAt W6 g) t x)) base (.slice (some ⟨g, 0, none⟩) L.length c) ((M.set (t + 1) S[q]).set t x) := Kind.Own.putK hM6 x (by rw [List.length_set]; omega)
            have hg7 : w.grownBy (W6.setRow g (KI.putK (rowAt W6 g) t x)) (some g) := by
              rw [← hW6]
              exact ((⟨hg5.os, hg5.tape, hg5.output, hg5.size, hg5.block⟩ : w.grownBy w5.drew (some g)).trans (grown_setRow w5.drew g _)).trans (grown_setRow _ g _)
            obtain ⟨W7, hW7⟩ : ∃ W7, W6.setRow g (KI.putK (rowAt W6 g) t x) = W7 := ⟨_, rfl⟩
            rw [hW7] at hst2 hM7 hg7
            clear hok6 hra6 hW6 hW7 hsa hsb hsc
            go_wp2_with fail
            go_region
            have e6 := e3.out
            rw [ht] at e6
            rw [e6] at hM7
            go_wp2_with fail
            go_roundw
            case rel => exact ⟨q, by omega, hcq, by rw [ht], hg7, hM7⟩
            case measure => simp [intOf]
          · have hng : ¬ cmpI x.2.2.1 S[q].2.2.1 < 0 := by
              have : ¬ x.2.2.1 < S[q].2.2.1 := fun h => hcq (hi.1 h)
              unfold cmpI; rw [if_neg this]; split <;> decide
            obtain rfl : p = q + 1 := by omega
            go_wp2_with fail
            go_roundw
            case rel => exact ⟨k + 1, by omega, .inl (by omega), by go_num, hg5, by rw [hse.out]; exact (Kind.Own.new (by assumption) hr5)⟩
            case measure => simp [intOf]; omega
    · go_wp2_with fail
      go_end0
      have hres : sortSeg L a k = sortSeg L a b := by
        rcases hkb with h | h
        · rw [show k = b by omega]
        · subst h
          rw [sortSeg_start]
          rcases Nat.lt_or_ge a b with h2 | h2
          · rw [show b = a + 1 by omega, sortSeg_start]
          · rw [show b = a by omega, sortSeg_same]
      rw [hres] at hM
      exact ⟨rfl, hM, hr⟩
end Go.Proofs.Ytkgebhmlogddcaa
