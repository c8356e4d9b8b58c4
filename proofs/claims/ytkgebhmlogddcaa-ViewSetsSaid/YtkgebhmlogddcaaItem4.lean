/- Contracts of the layer item: what is added, changed and dropped. -/
import Derived.Test.YtkgebhmlogddcaaItem3
namespace Go.Proofs.Ytkgebhmlogddcaa
open Go.RowKit
set_option linter.unusedSimpArgs false
attribute [local go_sem] rowAt_alloc_at rowAt_alloc_past rowOk_alloc_at rowOk_alloc_past rowAt_drew rowOk_drew setRow_alloc_at setRow_alloc_past rowAt_setRow rowAt_setRow_far rowOk_setRow cell_rowOk frozen_rowOk setCell_rowOk setRow_setRow con_fold con_get con_size con_set set_all none8_cells equalIn_con storeCells_con
attribute [local go_sem] it_size it_0 it_1 it_2 it_3 it_4 it_5 it_6 it_7 it_8 it_9 it_10 it_set0 it_set1 it_set2 it_fold it_zero it_eta it_fill run_storeCells_it

/-- a part: its slice, and what it reads as -/
abbrev Part := Option Addr × Nat × Nat × List It
def partV (p : Part) : Value := .slice p.1 p.2.1 p.2.2.1
def partsL (ps : List Part) : List It := ps.flatMap fun p => p.2.2.2
theorem parts_step (ps : List Part) (k : Nat) (hk : k < ps.length) : partsL (ps.take (k + 1)) = partsL (ps.take k) ++ ps[k].2.2.2 := by
  unfold partsL; rw [List.take_succ_eq_append_getElem hk, List.flatMap_append]; simp
theorem parts_len (ps : List Part) (k : Nat) (hk : k < ps.length) : (partsL (ps.take k)).length + ps[k].2.2.2.length ≤ (partsL ps).length := by
  have h1 := parts_step ps k hk
  have h2 : partsL ps = partsL (ps.take (k + 1)) ++ partsL (ps.drop (k + 1)) := by
    unfold partsL
    rw [← List.flatMap_append, List.take_append_drop]
  have h3 := congrArg List.length h2
  rw [h1] at h3
  simp only [List.length_append] at h3
  omega

set_option maxHeartbeats 800000 in
theorem cut_any (g m : Nat) (ps : List Part) (w : World) (hok : rowOk w g = true) (hg : rowAt w g = (ps.map partV).toArray) (hm : ps.length = m) (hps : ∀ k, (h : k < ps.length) → KI.Rd w ps[k].1 ps[k].2.1 ps[k].2.2.2)
    (hlen : (partsL ps).length ≤ 1000) (hm2 : m ≤ 1000) :
    Calls Try.prog 48 #[.slice (some ⟨g, 0, none⟩) m m] w fun e w' => ∃ v, e = .returned v ∧ KI.Own w' w.heap.size v (partsL ps) ∧ New w w' := by
  subst hm
  have HP := Lib.hid hps
  have HG := Lib.hid hg
  clear hps hg
  go_enter Try.func48, Try.ntmps48
  have hwA := fun w' (h : New w w') n hn => rowAt_below h n hn
  have hwO := fun w' (h : New w w') n hn => rowOk_below h n hn
  have hwS := fun w' (h : New w w') n (hn : n < w.heap.size) => eq_true (Nat.lt_of_lt_of_le hn h.size)
  go_wp2_with fail
  go_loopw [3, 8] (fun v i wr => ∃ k : Nat, k ≤ ps.length ∧ i = .int .i64 k ∧ New w wr ∧ KI.Own wr w.heap.size v (partsL (ps.take k))) (fun _ i _ => ps.length - (intOf i).toNat)
  case atStart => exact ⟨0, by omega, rfl, New.rfl' w, Kind.Own.nil⟩
  case round =>
    obtain ⟨k, hk, rfl, hr, hv⟩ := hrel
    by_cases hlt : k < ps.length
    · have hst := Lib.hid (parts_step ps k hlt)
      have hle := parts_len ps k hlt
      have hpk := (HP.out k hlt).new hr
      have hcell : wr.cell? ⟨g, k, none⟩ = some (partV ps[k]) := by
        have hlt2 := rowOk_lt w hok
        rw [cell_rowOk wr (by rw [hwO wr hr g hlt2, hok]), hwA wr hr g hlt2, HG.out]
        simp [hlt]
      generalize ps[k] = p at *
      obtain ⟨A, n, c, l⟩ := p
      change wr.cell? ⟨g, k, none⟩ = some (Value.slice A n c) at hcell
      change KI.Rd wr A n l at hpk
      dsimp only at hle
      go_wp2_with (first | (at_builtin; refine Kind.wpList_appendN rfl _ _ rfl rfl hv rfl hpk (by omega) KI_b (by have := hr.size; omega) ?_; intro v' w2 hv2 hg2))
      go_roundw
      case rel => exact ⟨k + 1, by omega, by go_num, Kind.Own.grown hr hv hg2, by rw [hst.out]; exact hv2⟩
      case measure => simp [intOf]; omega
    · go_wp2_with fail
      go_ret
      exact ⟨_, rfl, by rw [List.take_of_length_le (by omega)] at hv; exact hv, hr⟩

/-! ### what is added -/
def insI (l : List It) (x : It) : List It := l.take (posI l x.1) ++ [x] ++ l.drop (posI l x.1)
theorem insI_eq (l : List It) (x : It) : insI l x = l.take (posI l x.1) ++ [x] ++ l.drop (posI l x.1) := rfl
def addI (l : List It) (x : It) : List It × Int :=
  if !mayI l || x.1 == 0 || x.2.1 == 0 then ([], 2) else if hasI l x.1 then ([], 8) else if l.length = 40 then ([], 3) else (insI l x, 0)
theorem posI_le (l : List It) (id : Int) : posI l id ≤ l.length := by
  unfold posI
  have h : ∀ (p : It → Bool) (l : List It), (l.takeWhile p).length ≤ l.length := by
    intro p l
    induction l with
    | nil => simp
    | cons y l ih => rw [List.takeWhile_cons]; split <;> simp <;> omega
  exact h _ l

theorem cut3_any {w0 : World} {A B : Option Addr} {n c p q e g h : Nat} {l r res : List It} {x : It} (hl : KI.Rd w0 A n l) (hp : p ≤ n) (hB : KI.Rd w0 B q r) (hlen : n < 101) (hq : q < 101) (hres : l.take p ++ [x] ++ r = res)
    (w : World) (hn : New w0 w) (hok : rowOk w g = true) (hg : rowAt w g = itA x) (hok2 : rowOk w h = true) (hg2 : rowAt w h = #[.slice A p c, .slice (some ⟨g, 0, none⟩) 1 1, .slice B q e]) :
    Calls Try.prog 48 #[.slice (some ⟨h, 0, none⟩) 3 3] w fun e w' => ∃ A' c', e = .returned (.slice A' res.length c') ∧ KI.Own w' w.heap.size (.slice A' res.length c') res ∧ New w w' := by
  have hle := hl.1
  have hle2 := hB.1
  have he : partsL [((A, p, c, l.take p) : Part), (some ⟨g, 0, none⟩, 1, 1, [x]), (B, q, e, r)] = res := by rw [← hres]; simp [partsL]
  have := cut_any h 3 [((A, p, c, l.take p) : Part), (some ⟨g, 0, none⟩, 1, 1, [x]), (B, q, e, r)] w hok2 hg2 rfl (by
    intro k hk
    match k, hk with
    | 0, _ => exact (hl.upto hp).new hn
    | 1, _ => exact Kind.Rd.single hok hg
    | 2, _ => exact hB.new hn) (by rw [he, ← hres]; simp; omega) (by omega)
  rw [he] at this
  refine this.mono ?_
  rintro e w4 ⟨v, rfl, hv, hb⟩
  obtain ⟨A', c', rfl, _⟩ := hv.form
  exact ⟨_, _, rfl, hv, hb⟩
theorem cut2_any {w0 : World} {A B : Option Addr} {n c p q e h : Nat} {l r res : List It} (hl : KI.Rd w0 A n l) (hp : p ≤ n) (hB : KI.Rd w0 B q r) (hlen : n < 101) (hq : q < 101) (hres : l.take p ++ r = res)
    (w : World) (hn : New w0 w) (hok2 : rowOk w h = true) (hg2 : rowAt w h = #[.slice A p c, .slice B q e]) :
    Calls Try.prog 48 #[.slice (some ⟨h, 0, none⟩) 2 2] w fun e w' => ∃ A' c', e = .returned (.slice A' res.length c') ∧ KI.Own w' w.heap.size (.slice A' res.length c') res ∧ New w w' := by
  have hle := hl.1
  have hle2 := hB.1
  have he : partsL [((A, p, c, l.take p) : Part), (B, q, e, r)] = res := by rw [← hres]; simp [partsL]
  have := cut_any h 2 [((A, p, c, l.take p) : Part), (B, q, e, r)] w hok2 hg2 rfl (by
    intro k hk
    match k, hk with
    | 0, _ => exact (hl.upto hp).new hn
    | 1, _ => exact hB.new hn) (by rw [he, ← hres]; simp; omega) (by omega)
  rw [he] at this
  refine this.mono ?_
  rintro e w4 ⟨v, rfl, hv, hb⟩
  obtain ⟨A', c', rfl, _⟩ := hv.form
  exact ⟨_, _, rfl, hv, hb⟩

set_option maxHeartbeats 800000 in
theorem iAdd_ok (A : Option Addr) (n c : Nat) (l : List It) (x : It) (w : World) (hl : KI.Rd w A n l) (hc : n ≤ c) (hm : mayI l = true) (h1 : (x.1 == 0) = false) (h2 : (x.2.1 == 0) = false) (h3 : hasI l x.1 = false) (h4 : l.length < 40) :
    Calls Try.prog 12 #[.slice A n c, .agg (itA x)] w fun e w' => ∃ v, e = .returned (.tuple #[v, .int .i64 0]) ∧ KI.Own w' w.heap.size v (insI l x) ∧ New w w' := by
  obtain rfl : l.length = n := hl.1
  have hple := posI_le l x.1
  have hA1 := imay_any A l.length c l
  rw [hm] at hA1
  have HA := Lib.hid hA1
  have hris := Lib.hid (risI_of l hm)
  have hB1 := ifind_any A l.length c l x.1
  rw [h3] at hB1
  have HB := Lib.hid hB1
  have hins := Lib.hid (insI_eq l x)
  have h40 : ((l.length : Int) == 40) = false := by simp; omega
  clear hA1 hB1 hm h3
  generalize hpp : posI l x.1 = p at *
  have Hpp := Lib.hid hpp
  clear hpp
  go_enter Try.func12, Try.ntmps12
  go_wp2_with fail
  have hnW : New w (w.alloc (Obj.cells (itA x) 28)) := (New.rfl' w).alloc' _
  generalize hW : (w.alloc (Obj.cells (itA x) 28)) = W at *
  have hWz0 : w.heap.size < W.heap.size := by rw [← hW]; simp only [World.size_alloc]; omega
  have hWa0 : rowAt W (w.heap.size) = itA x := by rw [← hW]; simp [go_sem]
  have hWo0 : rowOk W (w.heap.size) = true := by rw [← hW]; simp [go_sem]
  clear hW
  have hWA := fun w' (h : New W w') n hn => rowAt_below h n hn
  have hWO := fun w' (h : New W w') n hn => rowOk_below h n hn
  have hWS := fun w' (h : New W w') n (hn : n < W.heap.size) => eq_true (Nat.lt_of_lt_of_le hn h.size)
  have hl2 := hl.new hnW
  go_wp2_with (first
    | (go_at_call 21; refine (HA.out _ hl2 (by omega)).mono ?_; rintro e w1 ⟨rfl, hb1⟩)
    | (go_at_call 47; refine (HB.out _ (hl2.new hb1) (by omega) hris.out).mono ?_; rintro e w2 ⟨rfl, hb⟩; have hb2 := New.call hb1 hb; clear hb))
  have i1 : (p : Int) ≤ (l.length : Int) := by omega
  have i2 : (p : Int) ≤ (c : Int) := by omega
  have i3 : (l.length : Int) ≤ (c : Int) := by omega
  by_cases hcp : c = p
  · subst hcp
    have hB : KI.Rd w2 A (l.length - c) (l.drop c) := by have := (hl2.new hb2).cut hple hc; rwa [if_pos rfl] at this
    have hC := fun w' h0 h1 h2 h3 h4 => cut3_any (res := insI l x) (c := c) (e := 0) (g := w2.heap.size) (h := w2.heap.size + 1) (x := x) (hl2.new hb2) hple hB (by omega) (by omega) (by rw [hins.out]) w' h0 h1 h2 h3 h4
    go_region_held3 (fun w' => New W w') (first | exact New.drew' hb2 | exact New.call (by assumption) hb | exact New.alloc' (by assumption) _)
      (first | (go_at_call 48; refine (hC _ (New.drew' (((New.rfl' w2).alloc' _).alloc' _)) (by go_simp) (by go_simp) (by go_simp) (by go_simp)).mono ?_; rintro e w4 ⟨A4, c4, rfl, hv4, hb⟩))
    go_wp2
    go_ret2
    exact ⟨_, rfl, hv4.lower (by have := hb2.size; have := hnW.size; simp only [World.size_alloc, World.size_drew]; omega), hnW.call (by assumption)⟩
  · have hB : KI.Rd w2 (Option.map (fun x => x.add (p * 11)) A) (l.length - p) (l.drop p) := by have := (hl2.new hb2).cut hple hc; rwa [if_neg hcp] at this
    have hC := fun w' h0 h1 h2 h3 h4 => cut3_any (res := insI l x) (c := c) (e := c - p) (g := w2.heap.size) (h := w2.heap.size + 1) (x := x) (hl2.new hb2) hple hB (by omega) (by omega) (by rw [hins.out]) w' h0 h1 h2 h3 h4
    go_region_held3 (fun w' => New W w') (first | exact New.drew' hb2 | exact New.call (by assumption) hb | exact New.alloc' (by assumption) _)
      (first | (go_at_call 48; refine (hC _ (New.drew' (((New.rfl' w2).alloc' _).alloc' _)) (by go_simp) (by go_simp) (by go_simp) (by go_simp)).mono ?_; rintro e w4 ⟨A4, c4, rfl, hv4, hb⟩))
    go_wp2
    go_ret2
    exact ⟨_, rfl, hv4.lower (by have := hb2.size; have := hnW.size; simp only [World.size_alloc, World.size_drew]; omega), hnW.call (by assumption)⟩
end Go.Proofs.Ytkgebhmlogddcaa
