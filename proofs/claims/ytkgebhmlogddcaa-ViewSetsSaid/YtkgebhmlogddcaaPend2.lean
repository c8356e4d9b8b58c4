/- Contracts of the reference of the layer view: what is pending. -/
import Derived.Test.YtkgebhmlogddcaaPend1
import Derived.Test.YtkgebhmlogddcaaGhostM
import Derived.Test.YtkgebhmlogddcaaStK
namespace Go.Proofs.Ytkgebhmlogddcaa
open Go.RowKit
set_option linter.unusedSimpArgs false
attribute [local go_sem] rowAt_alloc_at rowAt_alloc_past rowOk_alloc_at rowOk_alloc_past rowAt_drew rowOk_drew setRow_alloc_at setRow_alloc_past rowAt_setRow rowAt_setRow_far rowOk_setRow cell_rowOk frozen_rowOk setCell_rowOk setRow_setRow con_fold con_get con_size con_set set_all none8_cells equalIn_con storeCells_con
attribute [local go_sem] it_size it_0 it_1 it_2 it_3 it_4 it_5 it_6 it_7 it_8 it_9 it_10 it_set0 it_set1 it_set2 it_fold it_zero it_eta it_fill run_storeCells_it
attribute [local go_sem] sn_size sn_0 sn_1 sn_set0 sn_set1 sn_fold sn_eta sn_fill run_storeCells_sn eqg_sn eqg_it
attribute [local go_sem high] equalIn_sn equalIn_it
attribute [local go_sem] op_size op_0 op_1 op_2 op_3 op_4 op_5 op_6 op_7 op_8 op_9 op_10 op_11 op_con op_fold op_fold0 op_fillz op_set0 op_set1 op_set2 op_set3 op_ne op_fillC op_eta run_storeCells_op it_extr

def delO (x : Sn) : Opr := (3, 0, x.1, 0, none8)
def putO (v : List Sn) (gv : Int) (x : It) : Opr := (if (findS v x.1).isSome then 2 else 1, 0, x.1, gv, mg none8 x.2.2.2 gv false 0)
def goneP (l : List It) (x : Sn) : Bool := !(findI l x.1).isSome
/-- what is pending -/
def pendO (v : List Sn) (l : List It) (gv : Int) : List Opr :=
  if risS 0 v = true ∧ mayI l = true then (v.filter (goneP l)).map delO ++ (rise v l).map (putO v gv) else []
theorem map_filter_step {α β : Type} (f : α → β) (p : α → Bool) (l : List α) (k : Nat) (hk : k < l.length) : ((l.take (k + 1)).filter p).map f = ((l.take k).filter p).map f ++ (if p l[k] then [f l[k]] else []) := by
  rw [filter_step p l k hk, List.map_append]
  by_cases h : p l[k] = true <;> simp [h]
theorem map_step {α β : Type} (f : α → β) (l : List α) (k : Nat) (hk : k < l.length) : (l.take (k + 1)).map f = (l.take k).map f ++ [f l[k]] := by
  rw [List.take_succ_eq_append_getElem hk, List.map_append]; rfl

set_option maxHeartbeats 3200000 in
set_option maxRecDepth 100000 in
theorem rpend_ok (B : Option Addr) (m d : Nat) (v : List Sn) (A : Option Addr) (n c : Nat) (l : List It) (gv : Int) (w : World) (hv : KS.Rd w B m v) (hl : KI.Rd w A n l) (hm : m ≤ 1000) (hn : n ≤ 1000) (hPv : PosS v) (hPl : PosI l) (g0 : 0 ≤ gv) (g1 : gv < 256)
    (hmv : risS 0 v = true) (hml : mayI l = true) :
    Calls Try.prog 59 #[.slice B m d, .slice A n c, .int .u8 gv] w fun e w' => ∃ u, e = .returned u ∧ KO.Own w' w.heap.size u ((v.filter (goneP l)).map delO ++ (rise v l).map (putO v gv)) ∧ New w w' := by
  obtain rfl : v.length = m := hv.1
  obtain rfl : l.length = n := hl.1
  have hA1 := rvmay_any B v.length d v
  rw [hmv] at hA1
  have HA := Lib.hid hA1
  have hB1 := refmay_any A l.length c l
  rw [hml] at hB1
  have HB := Lib.hid hB1
  clear hA1 hB1
  have hv0 := hv
  have hl0 := hl
  go_enter Try.func59, Try.ntmps59
  have hwA := fun w' (h : New w w') n hn => rowAt_below h n hn
  have hwO := fun w' (h : New w w') n hn => rowOk_below h n hn
  have hwS := fun w' (h : New w w') n (hn : n < w.heap.size) => eq_true (Nat.lt_of_lt_of_le hn h.size)
  go_wp2_with (first
    | (go_at_call 29; refine (HA.out _ hv (by omega) hPv).mono ?_; rintro e w1 ⟨rfl, hb1⟩)
    | (go_at_call 25; refine (HB.out _ (hl.new hb1) (by omega) hPl).mono ?_; rintro e w2 ⟨rfl, hb⟩; have hb2 := New.call hb1 hb; clear hb))
  go_loopw [7, 8] (fun u i wr => ∃ k : Nat, k ≤ v.length ∧ i = .int .i64 k ∧ New w wr ∧ KO.Own wr w.heap.size u (((v.take k).filter (goneP l)).map delO)) (fun _ i _ => v.length - (intOf i).toNat)
  case atStart => exact ⟨0, by omega, rfl, hb2, Kind.Own.nil⟩
  case round =>
    obtain ⟨k, hk, rfl, hr, hu⟩ := hrel
    by_cases hlt : k < v.length
    · have hst := map_filter_step delO (goneP l) v k hlt
      have hlen : (((v.take k).filter (goneP l)).map delO).length ≤ k := by have := List.length_filter_le (goneP l) (v.take k); rw [List.length_map]; rw [List.length_take] at this; omega
      have hC1 := reffind_any A l.length c l v[k].1
      obtain ⟨bhv, ohv, rfl, hbhv, hchv⟩ := hv.2 (by omega)
      have hrhv : ∀ w', New w w' → ∀ k (hk : k < v.length), w'.cell? ⟨bhv, ohv + k * 2, none⟩ = (snA v[k])[0]? := fun w' hw k hk => (hw.cell (p := ⟨bhv, _, none⟩) hbhv).trans (hchv k hk 0 (by decide))
      have hshv : ∀ w', New w w' → ∀ k (hk : k < v.length) j, j < 2 → w'.cell? ⟨bhv, ohv + k * 2 + j, none⟩ = (snA v[k])[j]? := fun w' hw k hk j hj => (hw.cell (p := ⟨bhv, _, none⟩) hbhv).trans (hchv k hk j hj)
      clear hchv
      generalize ((v.take k).filter (goneP l)).map delO = L at *
      have hgp : goneP l v[k] = !(findI l v[k].1).isSome := rfl
      rw [hgp] at hst
      generalize (findI l v[k].1).isSome = it at *
      generalize (findI l v[k].1).getD itZ = xx at *
      have HC := Lib.hid hC1
      have hst2 := Lib.hid hst
      clear hgp hst hC1
      cases it
      · go_wp2_with (first
          | (go_at_call 24; refine (HC.out _ (hl0.new hr) (by omega) hPl).mono ?_; rintro e w3 ⟨rfl, hb⟩; have hr1 := (hr.call hb).alloc' (Obj.cells (itA xx) 28); have hu1 := (hu.new hb).alloc (Obj.cells (itA xx) 28))
          | (at_builtin; (refine Kind.wpList_append1 rfl _ _ rfl rfl (hu1.alloc _) (delO v[k]) (w3.heap.size + 1) rfl (by go_simp) (by go_simp; rfl) (by omega) KO_b (by have := hr1.size; simp only [World.size_alloc] at *; omega) ?_); intro v' w4 hv4 _ hg))
        go_roundw
        case rel => exact ⟨k + 1, by omega, by go_num, Kind.Own.grown (hr1.alloc' _) (hu1.alloc _) hg, by rw [hst2.out]; exact hv4⟩
        case measure => simp [intOf]; omega
      · go_wp2_with (first
          | (go_at_call 24; refine (HC.out _ (hl0.new hr) (by omega) hPl).mono ?_; rintro e w3 ⟨rfl, hb⟩; have hr1 := (hr.call hb).alloc' (Obj.cells (itA xx) 28); have hu1 := (hu.new hb).alloc (Obj.cells (itA xx) 28)))
        go_roundw
        case rel => exact ⟨k + 1, by omega, by go_num, hr1, by rw [hst2.out]; simpa using hu1⟩
        case measure => simp [intOf]; omega
    · have hu1 := hu
      rw [List.take_of_length_le (by omega)] at hu1
      have hlen : ((v.filter (goneP l)).map delO).length ≤ 1000 := by have := List.length_filter_le (goneP l) v; rw [List.length_map]; omega
      generalize hGq : (v.filter (goneP l)).map delO = G at *
      have HGq := Lib.hid hGq
      clear hGq
      clear hu
      have hrl := rise_len v l
      have hD1 := rising_any B v.length d v A l.length c l
      generalize hRq : rise v l = R at *
      have HRq := Lib.hid hRq
      clear hRq
      have hsep0 : ∀ g, u7.ownBlock = some g → g < wr.heap.size := fun g e => (World.ownsRow.lt hu1 g e).2
      go_wp2_with (first
        | (go_at_call 74; refine (hD1 _ (hv0.new hr) (hl0.new hr) (by omega) (by omega) hPv).mono ?_; rintro e w3 ⟨u3, rfl, hu3, hb⟩; have hz3 := hb.size; have hr3 := hr.call hb; have hG3 := hu1.new hb; obtain ⟨A3, c3, rfl, hc3, hR3⟩ := hu3.rd))
      generalize wr.heap.size = s0 at *
      go_loopw [7, 12] (fun u i wq => ∃ q : Nat, q ≤ R.length ∧ i = .int .i64 q ∧ New w wq ∧ KI.Own wq s0 (.slice A3 R.length c3) R ∧ w3.heap.size ≤ wq.heap.size ∧ (∀ g, u.ownBlock = some g → g < s0 ∨ w3.heap.size ≤ g) ∧ KO.Own wq w.heap.size u (G ++ (R.take q).map (putO v gv))) (fun _ i _ => R.length - (intOf i).toNat)
      case atStart => exact ⟨0, by omega, rfl, hr3, hu3, Nat.le_refl _, fun g e => .inl (hsep0 g e), by simpa using hG3⟩
      case round =>
        obtain ⟨q, hq, rfl, hrq, hRq3, hzq, hsep, huq⟩ := hrel
        by_cases hltq : q < R.length
        · have hst := map_step (putO v gv) R q hltq
          have hlenq : (G ++ (R.take q).map (putO v gv)).length ≤ 1000 + q := by simp only [List.length_append, List.length_map, List.length_take]; omega
          have hst1 := congrArg (fun z => G ++ z) hst
          simp only [← List.append_assoc] at hst1
          have hE1 := rvof_any B v.length d v R[q].1
          have hpp : putO v gv R[q] = (if (findS v R[q].1).isSome then 2 else 1, 0, R[q].1, gv, mg none8 R[q].2.2.2 gv false 0) := rfl
          obtain ⟨gR, eA, _, _, hgR0, hokR, _⟩ := hRq3.spotK (by omega)
          subst eA
          have hgR1 : gR < w3.heap.size := by
            obtain ⟨b, o, e, hlt, _⟩ := hR3.2 (by omega)
            injection e with e
            injection e with e
            subst e; exact hlt
          have hRd := (Kind.Rd.of_own hRq3).1
          have hcR : ∀ w', KI.Rd w' (some ⟨gR, 0, none⟩) R.length R → ∀ j, j < 11 → w'.cell? ⟨gR, q * 11 + j, none⟩ = (itA R[q])[j]? := fun w' h j hj => by
            obtain ⟨b, o, e, _, hc⟩ := h.2 (by omega)
            injection e with e
            injection e with e1 e2
            subst e1; subst e2
            have := hc q hltq j hj
            rwa [KI_sz, Nat.zero_add] at this
          have hcR0 : ∀ w', KI.Rd w' (some ⟨gR, 0, none⟩) R.length R → w'.cell? ⟨gR, q * 11, none⟩ = (itA R[q])[0]? := fun w' h => hcR w' h 0 (by omega)
          have hcR3 : ∀ w', KI.Rd w' (some ⟨gR, 0, none⟩) R.length R → ∀ j, j < 8 → w'.cell? ⟨gR, q * 11 + 3 + j, none⟩ = (itA R[q])[3 + j]? := fun w' h j hj => by rw [Nat.add_assoc]; exact hcR w' h (3 + j) (by omega)
          generalize G ++ (R.take q).map (putO v gv) = L at *
          generalize (findS v R[q].1).isSome = it at *
          generalize (findS v R[q].1).getD 0 = sv at *
          rw [hpp] at hst1
          have hpq := Lib.hid hpp
          have HE := Lib.hid hE1
          have hst2 := Lib.hid hst1
          clear hpp hst hst1 hE1
          cases it
          all_goals
            simp only [if_true, if_false, Bool.false_eq_true] at hst2 hpq
            go_wp2_with (first
              | (go_at_call 31; refine (HE.out _ (hv0.new hrq) (by omega) hPv).mono ?_; rintro e w4 ⟨rfl, hb⟩; have hrq := hrq.call hb; have hRq3 := hRq3.new hb; have hRd := hRd.new hb; have huq := huq.new hb; have hzq := Nat.le_trans hzq hb.size; clear hb))
            go_region_held3 (fun w' => KI.Rd w' (some ⟨gR, 0, none⟩) R.length R) (first | exact hRd | exact hRd5 | exact hRd5.alloc _ | exact hRd6)
              (first
              | (go_at_call 75; refine (refonly_any _ _ _ g0 g1).mono ?_; rintro e w5 ⟨rfl, hb⟩; have hrq5 := (New.drew' hrq).call hb; have hR5 := Kind.Own.new (show KI.Own (World.drew _) _ _ _ from hRq3) hb; have hRd5 := (Kind.Rd.of_own hR5).1; have hu5 := Kind.Own.new (show KO.Own (World.drew _) _ _ _ from huq) hb; have hzq5 := Nat.le_trans hzq hb.size; clear hb)
              | (refine Kind.step_append1 rfl _ _ rfl rfl (hu5.alloc _) (putO v gv R[q]) w5.heap.size rfl (by go_simp) (by go_simp; rw [hpq.out]; rfl) (by omega) KO_b (by have := hrq5.size; simp only [World.size_alloc]; omega) ?_; intro v6 w6 hv6 hg6 hat6; have hrq6 := Kind.Own.grown (hrq5.alloc' _) (hu5.alloc _) hg6; have hR6 := Kind.Own.far (hR5.alloc _) hg6 (fun e => by rcases hsep gR e with h | h <;> omega); have hRd6 := (Kind.Rd.of_own hR6).1; have hz6 := hg6.size))
            go_wp2_with fail
            go_roundw
            case rel => exact ⟨q + 1, by omega, by go_num, hrq6, hR6, by simp only [World.size_alloc] at hz6; omega, fun g e => by
              rcases hat6 with h | h
              · rw [h] at e; exact hsep g e
              · rw [h] at e; injection e with e; simp only [World.size_alloc] at e; exact .inr (by omega), by rw [hst2.out, ← hpq.out]; exact hv6⟩
            case measure => simp [intOf]; omega
        · go_wp2_with fail
          go_ret
          rw [List.take_of_length_le (by omega)] at huq
          exact ⟨_, rfl, by rw [HGq.out, HRq.out]; exact huq, hrq⟩
set_option maxHeartbeats 800000 in
theorem rpend_bad1 (B : Option Addr) (m d : Nat) (v : List Sn) (A : Option Addr) (n c : Nat) (gv : Int) (w : World) (hv : KS.Rd w B m v) (hm : m ≤ 1000) (hPv : PosS v) (hmv : risS 0 v = false) :
    Calls Try.prog 59 #[.slice B m d, .slice A n c, .int .u8 gv] w fun e w' => e = .returned (.slice none 0 0) ∧ New w w' := by
  have hA1 := rvmay_any B m d v
  rw [hmv] at hA1
  have HA := Lib.hid hA1
  clear hA1 hmv
  go_enter Try.func59, Try.ntmps59
  go_wp2_with (first
    | (go_at_call 29; refine (HA.out _ hv (by omega) hPv).mono ?_; rintro e w1 ⟨rfl, hb1⟩))
  go_ret
  exact ⟨rfl, hb1⟩
set_option maxHeartbeats 800000 in
theorem rpend_bad2 (B : Option Addr) (m d : Nat) (v : List Sn) (A : Option Addr) (n c : Nat) (l : List It) (gv : Int) (w : World) (hv : KS.Rd w B m v) (hl : KI.Rd w A n l) (hm : m ≤ 1000) (hn : n ≤ 1000) (hPv : PosS v) (hPl : PosI l) (hmv : risS 0 v = true) (hml : mayI l = false) :
    Calls Try.prog 59 #[.slice B m d, .slice A n c, .int .u8 gv] w fun e w' => e = .returned (.slice none 0 0) ∧ New w w' := by
  have hA1 := rvmay_any B m d v
  rw [hmv] at hA1
  have HA := Lib.hid hA1
  have hB1 := refmay_any A n c l
  rw [hml] at hB1
  have HB := Lib.hid hB1
  clear hA1 hB1 hmv hml
  go_enter Try.func59, Try.ntmps59
  go_wp2_with (first
    | (go_at_call 29; refine (HA.out _ hv (by omega) hPv).mono ?_; rintro e w1 ⟨rfl, hb1⟩)
    | (go_at_call 25; refine (HB.out _ (hl.new hb1) (by omega) hPl).mono ?_; rintro e w2 ⟨rfl, hb⟩; have hb2 := New.call hb1 hb; clear hb))
  go_ret
  exact ⟨rfl, hb2⟩
theorem rpend_any (B : Option Addr) (m d : Nat) (v : List Sn) (A : Option Addr) (n c : Nat) (l : List It) (gv : Int) (w : World) (hv : KS.Rd w B m v) (hl : KI.Rd w A n l) (hm : m ≤ 1000) (hn : n ≤ 1000) (hPv : PosS v) (hPl : PosI l) (g0 : 0 ≤ gv) (g1 : gv < 256) :
    Calls Try.prog 59 #[.slice B m d, .slice A n c, .int .u8 gv] w fun e w' => ∃ u, e = .returned u ∧ KO.Own w' w.heap.size u (pendO v l gv) ∧ New w w' := by
  unfold pendO
  cases hmv : risS 0 v
  · refine (rpend_bad1 B m d v A n c gv w hv hm hPv hmv).mono ?_; rintro e w' ⟨rfl, hb⟩; exact ⟨_, rfl, by simpa using Kind.Own.nil, hb⟩
  cases hml : mayI l
  · refine (rpend_bad2 B m d v A n c l gv w hv hl hm hn hPv hPl hmv hml).mono ?_; rintro e w' ⟨rfl, hb⟩; exact ⟨_, rfl, by simpa using Kind.Own.nil, hb⟩
  · simpa using rpend_ok B m d v A n c l gv w hv hl hm hn hPv hPl g0 g1 hmv hml
end Go.Proofs.Ytkgebhmlogddcaa
