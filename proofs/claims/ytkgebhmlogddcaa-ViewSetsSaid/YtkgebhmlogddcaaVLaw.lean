/- The small functions of the law of layer 20: seen, items, great, lives. -/
import Derived.Test.YtkgebhmlogddcaaVTold
import Derived.Great.Walk
namespace Go.Proofs.Ytkgebhmlogddcaa
open Go.RowKit
set_option linter.unusedSimpArgs false
attribute [local go_sem] rowAt_alloc_at rowAt_alloc_past rowOk_alloc_at rowOk_alloc_past rowAt_drew rowOk_drew setRow_alloc_at setRow_alloc_past rowAt_setRow rowAt_setRow_far rowOk_setRow cell_rowOk frozen_rowOk setCell_rowOk setRow_setRow con_fold con_get con_size con_set set_all none8_cells equalIn_con storeCells_con
attribute [local go_sem] it_size it_0 it_1 it_2 it_3 it_4 it_5 it_6 it_7 it_8 it_9 it_10 it_set0 it_set1 it_set2 it_fold it_zero it_eta it_fill run_storeCells_it
attribute [local go_sem] sn_size sn_0 sn_1 sn_set0 sn_set1 sn_fold sn_eta sn_fill run_storeCells_sn eqg_sn eqg_it
attribute [local go_sem high] equalIn_sn equalIn_it
attribute [local go_sem] it_set2 op_size op_0 op_1 op_2 op_3 op_4 op_5 op_6 op_7 op_8 op_9 op_10 op_11 op_con op_fold op_fold0 op_fillz op_set0 op_set1 op_set2 op_set3 op_ne op_fillC op_eta run_storeCells_op it_extr

def V20 : List Sn := [(2, 5), (7, 6)]
def I20 : List It := [(2, 1, 5, none8), (3, 1, 9, none8), (4, 1, 8, none8)]
def P20 : List Opr := [(3, 0, 7, 0, none8), (1, 0, 4, 255, none8), (1, 0, 3, 255, none8)]
def T20 : List Sn := [(2, 5), (3, 9), (4, 8)]
theorem p20 : (V20.filter (goneP I20)).map delO ++ ((isort I20).filter (newP V20)).map (putO V20 255) = P20 := by rfl
theorem t20 : toldO V20 I20 P20 = T20 := by rfl
theorem s20 : findS (setS V20 7 9) 7 = some 9 := by rfl
set_option maxHeartbeats 400000 in
theorem seen_any (w : World) : Calls Try.prog 60 #[] w fun e w' => ∃ v, e = .returned v ∧ KS.Own w' w.heap.size v V20 ∧ New w w' := by
  go_enter Try.func60, Try.ntmps60
  go_wp2
  go_ret
  refine ⟨_, rfl, ?_, (New.rfl' w).alloc' _⟩
  have h : ∀ cs : Array Value, cs.toList = KS.flat V20 → cs.size = 4 → KS.Own (w.alloc (Obj.cells cs KS.e)) w.heap.size (.slice (some ⟨w.heap.size, 0, none⟩) 2 2) V20 := by
    intro cs h1 h2
    have h3 := World.ownsRow_lit (base := w.heap.size) (e := KS.e) (size := 2) w cs 2 (Nat.le_refl _) (by decide) (by omega)
    rw [h1] at h3
    exact h3
  exact h _ (by kernel_rfl) (by kernel_rfl)
set_option maxHeartbeats 800000 in
set_option maxRecDepth 100000 in
theorem items20_any (w : World) : Calls Try.prog 61 #[] w fun e w' => ∃ v, e = .returned v ∧ KI.Own w' w.heap.size v I20 ∧ New w w' := by
  go_enter Try.func61, Try.ntmps61
  go_step
  go_step
  go_step
  go_step
  go_step
  apply_assumption
  go_step
  apply_assumption
  go_step
  go_step
  refine Go.wpList_buildTo rfl _ _ rfl _ rfl (itA (2, 1, 5, none8)) (by kernel_rfl) ?_
  refine Go.wpList_buildTo rfl _ _ rfl _ rfl (itA (3, 1, 9, none8)) (by kernel_rfl) ?_
  refine Go.wpList_buildTo rfl _ _ rfl _ rfl (itA (4, 1, 8, none8)) (by kernel_rfl) ?_
  refine Go.Great.wpList_buildSliceTo rfl _ 28 _ _ rfl _ rfl _ rfl (by kernel_rfl) ((KI.flat I20).toArray) (by kernel_rfl) ?_
  generalize hcs : (KI.flat I20).toArray = cs
  go_wp2
  go_ret
  refine ⟨_, rfl, ?_, (New.rfl' w).alloc' _⟩
  subst hcs
  have h3 := World.ownsRow_lit (base := w.heap.size) (e := KI.e) (size := 11) w ((KI.flat I20).toArray) 3 (Nat.le_refl _) (by decide) (by kernel_rfl)
  exact h3
theorem rdlit20 (w : World) (cs : Array Value) (h1 : cs.toList = KS.flat T20) (h2 : cs.size = 6) : KS.Rd (w.alloc (Obj.cells cs KS.e)) (some ⟨w.heap.size, 0, none⟩) 3 T20 := by
  have h3 := World.ownsRow_lit (base := w.heap.size) (e := KS.e) (size := 2) w cs 3 (Nat.le_refl _) (by decide) (by omega)
  rw [h1] at h3
  exact (Kind.Rd.of_own (show KS.Own _ w.heap.size _ T20 from h3)).1
set_option maxHeartbeats 400000 in
theorem great20 (A : Option Addr) (n c : Nat) (B : Option Addr) (m d : Nat) (O : Option Addr) (k o : Nat) (w : World) :
    Calls Try.prog 37 #[.slice A n c, .slice B m d, .slice O k o] w fun e w' => e = .returned (.bool (decide (100 < n) || decide (60 < m) || decide (100 < k))) ∧ w = w' := by
  by_cases h1 : 100 < n
  · have d1 : decide ((100 : Int) < (n : Int)) = true := by simp; omega
    have d2 : decide (100 < n) = true := by simpa using h1
    go_enter Try.func37, Try.ntmps37
    go_wp2_with fail
    go_ret
    exact ⟨by rw [d2]; rfl, rfl⟩
  · have d1 : decide ((100 : Int) < (n : Int)) = false := by simp; omega
    have d2 : decide (100 < n) = false := by simpa using h1
    by_cases h3 : 60 < m
    · have d3 : decide ((60 : Int) < (m : Int)) = true := by simp; omega
      have d4 : decide (60 < m) = true := by simpa using h3
      go_enter Try.func37, Try.ntmps37
      go_wp2_with fail
      go_ret
      exact ⟨by rw [d2, d4]; rfl, rfl⟩
    · have d3 : decide ((60 : Int) < (m : Int)) = false := by simp; omega
      have d4 : decide (60 < m) = false := by simpa using h3
      go_enter Try.func37, Try.ntmps37
      go_wp2_with fail
      go_ret
      exact ⟨by rw [d2, d4, Bool.false_or, Bool.false_or]; congr 3; simp; omega, rfl⟩

theorem pend20 (A : Option Addr) (c : Nat) (B : Option Addr) (d : Nat) (w : World) (hs : KS.Rd w A 2 V20) (hi : KI.Rd w B 3 I20) :
    Calls Try.prog 45 #[.slice A 2 c, .slice B 3 d, .int .u8 255] w fun e w' => ∃ b o c', e = .returned (.slice (some ⟨b, o, none⟩) 3 c') ∧ KO.Rd w' (some ⟨b, o, none⟩) 3 P20 ∧ 3 ≤ c' ∧
      (∀ w2, New w' w2 → w2.cell? ⟨b, o, none⟩ = some (.int .u8 3) ∧ w2.cell? ⟨b, o + 2, none⟩ = some (.int .u32 7) ∧ w2.cell? ⟨b, o + 12 + 2, none⟩ = some (.int .u32 4) ∧ w2.cell? ⟨b, o + 24 + 2, none⟩ = some (.int .u32 3)) ∧ New w w' := by
  refine (vpend_any A c V20 B d I20 255 (by decide) (by decide) (by decide) (by decide) (sortOk_small _ (by decide)) w hs hi rfl rfl).mono ?_
  rintro e w1 ⟨v, rfl, hv, hb⟩
  rw [p20] at hv
  obtain ⟨A2, c2, rfl, hc2, hr2⟩ := hv.rd
  have hr0 := hr2
  obtain ⟨b, o, rfl, hbb, hc⟩ := hr2.2 (by decide)
  refine ⟨b, o, c2, rfl, hr0, hc2, fun w2 h2 => ⟨?_, ?_, ?_, ?_⟩, hb⟩
  · exact (h2.cell (p := ⟨b, _, none⟩) hbb).trans ((hc 0 (by decide) 0 (by decide)).trans rfl)
  · exact (h2.cell (p := ⟨b, _, none⟩) hbb).trans ((hc 0 (by decide) 2 (by decide)).trans rfl)
  · exact (h2.cell (p := ⟨b, _, none⟩) hbb).trans ((hc 1 (by decide) 2 (by decide)).trans rfl)
  · exact (h2.cell (p := ⟨b, _, none⟩) hbb).trans ((hc 2 (by decide) 2 (by decide)).trans rfl)
theorem first20 (A : Option Addr) (c : Nat) (w : World) (hc : 3 ≤ c) (h : KO.Rd w A 3 P20) :
    Calls Try.prog 62 #[.slice A 3 c, .int .i64 2] w fun e w' => ∃ A2 c2, e = .returned (.tuple #[.slice A2 2 c2, .bool true]) ∧ New w w' := by
  refine (first_any A 3 c P20 2 w h hc (by decide)).mono ?_
  rintro e w1 ⟨v, rfl, hv, hb⟩
  obtain ⟨A2, c2, rfl, _⟩ := hv.form
  exact ⟨A2, c2, rfl, hb⟩
theorem told20 (A : Option Addr) (c : Nat) (B : Option Addr) (d : Nat) (O : Option Addr) (oc : Nat) (w : World) (hs : KS.Rd w A 2 V20) (hi : KI.Rd w B 3 I20) (ho : KO.Rd w O 3 P20) :
    Calls Try.prog 44 #[.slice A 2 c, .slice B 3 d, .slice O 3 oc] w fun e w' => ∃ A2 c2, e = .returned (.slice A2 3 c2) ∧ KS.Rd w' A2 3 T20 ∧ New w w' := by
  refine (vtold_any A c V20 B d I20 O oc P20 (by decide) (by decide) w hs hi ho rfl rfl).mono ?_
  rintro e w1 ⟨v, rfl, hv, hb⟩
  rw [t20] at hv
  obtain ⟨A2, c2, rfl, hc2, hr2⟩ := hv.rd
  exact ⟨A2, c2, rfl, hr2, hb⟩
theorem set20 (A : Option Addr) (c : Nat) (w : World) (hs : KS.Rd w A 2 V20) :
    Calls Try.prog 40 #[.slice A 2 c, .int .u32 7, .int .u64 9] w fun e w' => ∃ A2 c2, e = .returned (.slice A2 2 c2) ∧ KS.Rd w' A2 2 (setS V20 7 9) ∧ New w w' := by
  refine (vset_any A 2 c V20 7 9 w hs (by decide)).mono ?_
  rintro e w1 ⟨v, rfl, hv, hb⟩
  obtain ⟨A2, c2, rfl, hc2, hr2⟩ := hv.rd
  exact ⟨A2, c2, rfl, hr2, hb⟩
theorem of20 (A : Option Addr) (c : Nat) (w : World) (hs : KS.Rd w A 2 (setS V20 7 9)) :
    Calls Try.prog 39 #[.slice A 2 c, .int .u32 7] w fun e w' => e = .returned (.tuple #[.int .u64 9, .bool true]) ∧ New w w' := vof_any A 2 c (setS V20 7 9) 7 w hs (by decide)
theorem same20 (A : Option Addr) (c : Nat) (B : Option Addr) (d : Nat) (w : World) (ha : KS.Rd w A 3 T20) (hb : KS.Rd w B 3 T20) :
    Calls Try.prog 34 #[.slice A 3 c, .slice B 3 d] w fun e w' => e = .returned (.bool true) ∧ New w w' := by
  have := rvsame_any A 3 c T20 B 3 d T20 w ha hb (by decide) (by decide)
  rwa [decide_eq_true rfl] at this
set_option maxHeartbeats 1600000 in
set_option maxRecDepth 100000 in
theorem lives20 (w : World) : Calls Try.prog 38 #[] w fun e w' => e = .returned (.bool true) ∧ New w w' := by
  have hN := New.rfl' w
  go_enter Try.func38, Try.ntmps38
  have hcell : ∀ w' : World, New w w' → True := fun _ _ => trivial
  have hP := trivial
  go_wp2_with (first
    | (go_at_call 60; refine (seen_any _).mono ?_; rintro e w1 ⟨v, rfl, hv, hb⟩; obtain ⟨As, cs, rfl, -, hs⟩ := hv.rd; clear hv; have hN := hN.call hb; have hP := (hP.new hb); have hT := hT.new hb; have hcell := fun w2 h => hcell w2 (New.call hb h); clear hb)
    | (go_at_call 60; refine (seen_any _).mono ?_; rintro e w1 ⟨v, rfl, hv, hb⟩; obtain ⟨As, cs, rfl, -, hs⟩ := hv.rd; clear hv; have hN := hN.call hb; have hP := (hP.new hb); have hcell := fun w2 h => hcell w2 (New.call hb h); clear hb)
    | (go_at_call 60; refine (seen_any _).mono ?_; rintro e w1 ⟨v, rfl, hv, hb⟩; obtain ⟨As, cs, rfl, -, hs⟩ := hv.rd; clear hv; have hN := hN.call hb; clear hb)
    | (go_at_call 61; refine (items20_any _).mono ?_; rintro e w1 ⟨v, rfl, hv, hb⟩; obtain ⟨Ai, ci, rfl, -, hi⟩ := hv.rd; clear hv; have hN := hN.call hb; have hs := hs.new hb; have hP := (hP.new hb); have hcell := fun w2 h => hcell w2 (New.call hb h); clear hb)
    | (go_at_call 61; refine (items20_any _).mono ?_; rintro e w1 ⟨v, rfl, hv, hb⟩; obtain ⟨Ai, ci, rfl, -, hi⟩ := hv.rd; clear hv; have hN := hN.call hb; have hs := hs.new hb; clear hb)
    | (go_at_call 45; refine (pend20 _ _ _ _ _ hs hi).mono ?_; rintro e w1 ⟨bP, oP, cP, rfl, hP, hcP, hcell, hb⟩; have hN := hN.call hb; clear hb)
    | (go_at_call 62; refine (first20 _ _ _ hcP hP).mono ?_; rintro e w1 ⟨Af, cf, rfl, hb⟩; have hN := hN.call hb; have hP := (hP.new hb); have hcell := fun w2 h => hcell w2 (New.call hb h); clear hb)
    | (go_at_call 44; refine (told20 _ _ _ _ _ _ _ hs hi hP).mono ?_; rintro e w1 ⟨At, ct, rfl, hT, hb⟩; have hN := hN.call hb; have hP := hP.new hb; have hcell := fun w2 h => hcell w2 (New.call hb h); clear hb)
    | (go_at_call 40; refine (set20 _ _ _ hs).mono ?_; rintro e w1 ⟨Ae, ce, rfl, hE, hb⟩; have hN := hN.call hb; have hT := hT.new hb; have hcell := fun w2 h => hcell w2 (New.call hb h); clear hb)
    | (go_at_call 39; refine (of20 _ _ _ hE).mono ?_; rintro e w1 ⟨rfl, hb⟩; have hN := hN.call hb; have hT := hT.new hb; have hcell := fun w2 h => hcell w2 (New.call hb h); clear hb; have hR := New.rfl' w1; have q1 := fun w2 (h : New w1 w2) => (hcell w2 h).1; have q2 := fun w2 (h : New w1 w2) => (hcell w2 h).2.1; have q3 := fun w2 (h : New w1 w2) => (hcell w2 h).2.2.1; have q4 := fun w2 (h : New w1 w2) => (hcell w2 h).2.2.2)
    | (go_at_call 34; refine (same20 _ _ _ _ _ (hT.alloc _) (rdlit20 w1 _ (by kernel_rfl) (by kernel_rfl))).mono ?_; rintro e w2 ⟨rfl, hb⟩; have hN2 := (hN.alloc' _).call hb))
  go_ret
  exact ⟨rfl, hN2⟩
end Go.Proofs.Ytkgebhmlogddcaa
