/- Contracts of the reference of the layer view: what is told, and what is not, by rising Seq. -/
import Derived.Test.YtkgebhmlogddcaaView3
import Derived.Test.YtkgebhmlogddcaaOp
namespace Go.Proofs.Ytkgebhmlogddcaa
open Go.RowKit
set_option linter.unusedSimpArgs false
attribute [local go_sem] rowAt_alloc_at rowAt_alloc_past rowOk_alloc_at rowOk_alloc_past rowAt_drew rowOk_drew setRow_alloc_at setRow_alloc_past rowAt_setRow rowAt_setRow_far rowOk_setRow cell_rowOk frozen_rowOk setCell_rowOk setRow_setRow con_fold con_get con_size con_set set_all none8_cells equalIn_con storeCells_con
attribute [local go_sem] it_size it_0 it_1 it_2 it_3 it_4 it_5 it_6 it_7 it_8 it_9 it_10 it_set0 it_set1 it_set2 it_fold it_zero it_eta it_fill run_storeCells_it
attribute [local go_sem] sn_size sn_0 sn_1 sn_set0 sn_set1 sn_fold sn_eta sn_fill run_storeCells_sn eqg_sn eqg_it
attribute [local go_sem high] equalIn_sn equalIn_it

/-- is an item as the view has it? -/
def toldP (v : List Sn) (x : It) : Bool := (findS v x.1).isSome && ((findS v x.1).getD 0 == x.2.2.1)
set_option maxHeartbeats 800000 in
theorem told_any (B : Option Addr) (m d : Nat) (v : List Sn) (x : It) (w : World) (hv : KS.Rd w B m v) (hm : m ≤ 140737488355328) (hP : PosS v) :
    Calls Try.prog 90 #[.slice B m d, .agg (itA x)] w fun e w' => e = .returned (.bool (toldP v x)) ∧ New w w' := by
  obtain rfl : v.length = m := hv.1
  have hA1 := rvof_any B v.length d v x.1
  unfold toldP
  generalize (findS v x.1).isSome = st at *
  generalize (findS v x.1).getD 0 = sv at *
  cases st
  all_goals
    have HA := Lib.hid hA1
    go_enter Try.func90, Try.ntmps90
    go_wp2_with fail
    have hnW : New w (w.alloc (Obj.cells (itA x) 28)) := (New.rfl' w).alloc' _
    generalize hW : (w.alloc (Obj.cells (itA x) 28)) = W at *
    have hWz0 : w.heap.size < W.heap.size := by rw [← hW]; simp only [World.size_alloc]; omega
    have hWa0 : rowAt W (w.heap.size) = itA x := by rw [← hW]; simp [go_sem]
    have hWo0 : rowOk W (w.heap.size) = true := by rw [← hW]; simp [go_sem]
    clear hW
    have hWA := fun w' (h : New W w') n hn => rowAt_below h n hn
    have hWO := fun w' (h : New W w') n hn => rowOk_below h n hn
    have hWS := fun w' (h : New W w') n (hn : n < W.heap.size) => eq_true (Nat.lt_of_lt_of_le hn h.size)
    have hv2 := hv.new hnW
    go_wp2_with (first
      | (go_at_call 31; refine (HA.out _ hv2 (by omega) hP).mono ?_; rintro e w1 ⟨rfl, hb⟩))
    go_ret
    exact ⟨rfl, hnW.call hb⟩

/-- where an item stands by its Seq: behind those that are not above it -/
def qpos (L : List It) (x : It) : Nat := (L.takeWhile fun y => decide (y.2.2.1 ≤ x.2.2.1)).length
def insQ (L : List It) (x : It) : List It := L.take (qpos L x) ++ [x] ++ L.drop (qpos L x)
/-- the items that are not as the view has them, by rising Seq -/
def rise (v : List Sn) (l : List It) : List It := l.foldl (fun out x => if toldP v x then out else insQ out x) []
theorem qpos_le (L : List It) (x : It) : qpos L x ≤ L.length := by unfold qpos; exact (List.takeWhile_sublist _).length_le
theorem insQ_len (L : List It) (x : It) : (insQ L x).length = L.length + 1 := by
  have := qpos_le L x
  simp only [insQ, List.length_append, List.length_take, List.length_drop, List.length_cons, List.length_nil]; omega
theorem rise_step (v : List Sn) (l : List It) (k : Nat) (hk : k < l.length) : rise v (l.take (k + 1)) = if toldP v l[k] then rise v (l.take k) else insQ (rise v (l.take k)) l[k] := by
  unfold rise
  rw [List.take_succ_eq_append_getElem hk, List.foldl_append]; rfl
theorem rise_len (v : List Sn) (l : List It) : (rise v l).length ≤ l.length := by
  have h : ∀ (l o : List It), (l.foldl (fun out x => if toldP v x then out else insQ out x) o).length ≤ l.length + o.length := by
    intro l
    induction l with
    | nil => intro o; simp
    | cons x l ih =>
      intro o
      rw [List.foldl_cons]
      have := ih (if toldP v x then o else insQ o x)
      split at this
      · rename_i h; rw [if_pos h]; simp only [List.length_cons]; omega
      · rename_i h; rw [if_neg h]; rw [insQ_len] at this; simp only [List.length_cons]; omega
  have := h l []
  rw [List.length_nil, Nat.add_zero] at this
  exact this
theorem qpos_lt (L : List It) (x : It) (q : Nat) (h : q < qpos L x) (hq : q < L.length) : L[q].2.2.1 ≤ x.2.2.1 := by
  induction L generalizing q with
  | nil => simp at hq
  | cons y L ih =>
    by_cases hy : y.2.2.1 ≤ x.2.2.1
    · have e : qpos (y :: L) x = qpos L x + 1 := by simp [qpos, List.takeWhile_cons, hy]
      rcases q with _ | q
      · simpa using hy
      · exact ih q (by omega) (by simpa using hq)
    · have e : qpos (y :: L) x = 0 := by simp [qpos, List.takeWhile_cons, hy]
      omega
theorem qpos_at (L : List It) (x : It) (h : qpos L x < L.length) : x.2.2.1 < L[qpos L x].2.2.1 := by
  induction L with
  | nil => simp at h
  | cons y L ih =>
    by_cases hy : y.2.2.1 ≤ x.2.2.1
    · have e : qpos (y :: L) x = qpos L x + 1 := by simp [qpos, List.takeWhile_cons, hy]
      have h2 : qpos L x < L.length := by rw [e] at h; simpa using h
      have := ih h2
      simp only [e, List.getElem_cons_succ]
      exact this
    · have e : qpos (y :: L) x = 0 := by simp [qpos, List.takeWhile_cons, hy]
      simp only [e, List.getElem_cons_zero]; omega

set_option maxHeartbeats 3200000 in
set_option maxRecDepth 100000 in
theorem rising_any (B : Option Addr) (m d : Nat) (v : List Sn) (A : Option Addr) (n c : Nat) (l : List It) (w : World) (hv : KS.Rd w B m v) (hl : KI.Rd w A n l) (hm : m ≤ 1000) (hn : n ≤ 1000) (hP : PosS v) :
    Calls Try.prog 74 #[.slice B m d, .slice A n c] w fun e w' => ∃ u, e = .returned u ∧ KI.Own w' w.heap.size u (rise v l) ∧ New w w' := by
  obtain rfl : v.length = m := hv.1
  obtain rfl : l.length = n := hl.1
  go_enter Try.func74, Try.ntmps74
  have hwA := fun w' (h : New w w') n hn => rowAt_below h n hn
  have hwO := fun w' (h : New w w') n hn => rowOk_below h n hn
  have hwS := fun w' (h : New w w') n (hn : n < w.heap.size) => eq_true (Nat.lt_of_lt_of_le hn h.size)
  go_wp2_with fail
  go_loopw [5, 6] (fun u i wr => ∃ k : Nat, k ≤ l.length ∧ i = .int .i64 k ∧ New w wr ∧ KI.Own wr w.heap.size u (rise v (l.take k))) (fun _ i _ => l.length - (intOf i).toNat)
  case atStart => exact ⟨0, by omega, rfl, New.rfl' w, Kind.Own.nil⟩
  case round =>
    obtain ⟨k, hk, rfl, hr, hu⟩ := hrel
    by_cases hlt : k < l.length
    · have hst := rise_step v l k hlt
      have hA1 := fun w' hv => told_any B v.length d v l[k] w' hv (by omega) hP
      have hlen : (rise v (l.take k)).length ≤ k := by have := rise_len v (l.take k); rw [List.length_take] at this; omega
      have hl0 := hl
      obtain ⟨bhl, ohl, rfl, hbhl, hchl⟩ := hl.2 (by omega)
      have hrhl : ∀ w', New w w' → ∀ k (hk : k < l.length), w'.cell? ⟨bhl, ohl + k * 11, none⟩ = (itA l[k])[0]? := fun w' hw k hk => (hw.cell (p := ⟨bhl, _, none⟩) hbhl).trans (hchl k hk 0 (by decide))
      have hshl : ∀ w', New w w' → ∀ k (hk : k < l.length) j, j < 11 → w'.cell? ⟨bhl, ohl + k * 11 + j, none⟩ = (itA l[k])[j]? := fun w' hw k hk j hj => (hw.cell (p := ⟨bhl, _, none⟩) hbhl).trans (hchl k hk j hj)
      clear hchl
      generalize rise v (l.take k) = L at *
      obtain ⟨A1, c1, rfl, hc1, hro⟩ := hu.rd
      rcases Bool.eq_false_or_eq_true (toldP v l[k]) with h1 | h1
      · rw [h1, if_pos rfl] at hst
        rw [h1] at hA1
        have HA := Lib.hid hA1
        have hst2 := Lib.hid hst
        clear hA1 hst h1
        go_wp2_with (first
          | (go_at_call 90; refine (HA.out _ (hv.new hr)).mono ?_; rintro e w1 ⟨rfl, hb1⟩; have hr1 := hr.call hb1; have hu1 := hu.new hb1))
        go_roundw
        case rel => exact ⟨k + 1, by omega, by go_num, hr1, by rw [hst2.out]; exact hu1⟩
        case measure => simp [intOf]; omega
      · rw [h1, if_neg (by simp)] at hst
        rw [h1] at hA1
        have HA := Lib.hid hA1
        have hst2 := Lib.hid hst
        clear hA1 hst h1
        go_wp2_with (first
          | (go_at_call 90; refine (HA.out _ (hv.new hr)).mono ?_; rintro e w1 ⟨rfl, hb1⟩; have hr1 := hr.call hb1; have hu1 := hu.new hb1; have hro1 := hro.new hb1))
        have hpl := qpos_le L l[k]
        have hqa := Lib.hid (qpos_at L l[k])
        have hqb := Lib.hid (qpos_lt L l[k])
        generalize hqp' : qpos L l[k] = p at *
        have hqp := Lib.hid hqp'
        clear hqp'
        have i1 : (p : Int) ≤ (L.length : Int) := by omega
        have i2 : (p : Int) ≤ (c1 : Int) := by omega
        have i3 : (L.length : Int) ≤ (c1 : Int) := by omega
        have hL := Lib.hid (show L.length ≤ k from hlen)
        go_loopw [7] (fun j wi => ∃ q : Nat, q ≤ p ∧ j = .int .i64 q ∧ New w wi ∧ New w1 wi) (fun j _ => p - (intOf j).toNat)
        case atStart => exact ⟨0, by omega, rfl, hr1, New.rfl' w1⟩
        case round =>
          obtain ⟨q, hq, rfl, hri, hri2⟩ := hrel
          by_cases hqp2 : q < p
          · have hle := hqb.out q hqp2 (by omega)
            have hqL : q < L.length := by omega
            obtain ⟨bhro1, ohro1, rfl, hbhro1, hchro1⟩ := hro1.2 (by omega)
            have hrhro1 : ∀ w', New w1 w' → ∀ k (hk : k < L.length), w'.cell? ⟨bhro1, ohro1 + k * 11, none⟩ = (itA L[k])[0]? := fun w' hw k hk => (hw.cell (p := ⟨bhro1, _, none⟩) hbhro1).trans (hchro1 k hk 0 (by decide))
            have hshro1 : ∀ w', New w1 w' → ∀ k (hk : k < L.length) j, j < 11 → w'.cell? ⟨bhro1, ohro1 + k * 11 + j, none⟩ = (itA L[k])[j]? := fun w' hw k hk j hj => (hw.cell (p := ⟨bhro1, _, none⟩) hbhro1).trans (hchro1 k hk j hj)
            clear hchro1
            go_wp2_with fail
            go_quiet (fail)
            go_wp2_with fail
            go_roundw
            case rel => exact ⟨q + 1, by omega, by go_num, below_drewN hri _, below_drewN hri2 _⟩
            case measure => simp [intOf]; omega
          · obtain rfl : q = p := by omega
            by_cases hend : q < L.length
            · have hle := hqa.out hend
              have hce : ¬ c1 = q := by omega
              have hcut := fun w' (h : New w1 w') => (hro1.new h).cut (k := q) (by omega) hc1
              obtain ⟨bhro1, ohro1, rfl, hbhro1, hchro1⟩ := hro1.2 (by omega)
              have hrhro1 : ∀ w', New w1 w' → ∀ k (hk : k < L.length), w'.cell? ⟨bhro1, ohro1 + k * 11, none⟩ = (itA L[k])[0]? := fun w' hw k hk => (hw.cell (p := ⟨bhro1, _, none⟩) hbhro1).trans (hchro1 k hk 0 (by decide))
              have hshro1 : ∀ w', New w1 w' → ∀ k (hk : k < L.length) j, j < 11 → w'.cell? ⟨bhro1, ohro1 + k * 11 + j, none⟩ = (itA L[k])[j]? := fun w' hw k hk j hj => (hw.cell (p := ⟨bhro1, _, none⟩) hbhro1).trans (hchro1 k hk j hj)
              clear hchro1
              have HR := Lib.hid (show ∀ w', New w1 w' → KI.Rd w' (some ⟨bhro1, ohro1 + q * 11, none⟩) (L.length - q) (L.drop q) from fun w' h => by
                have := hcut w' h
                rw [if_neg hce, KI_sz, Option.map_some, show (⟨bhro1, ohro1, none⟩ : Addr).add (q * 11) = ⟨bhro1, ohro1 + q * 11, none⟩ from by unfold Addr.add; split <;> simp_all] at this
                exact this)
              clear hcut
              go_wp2_with fail
              go_quiet (fail)
              go_wp2_with (first
                | (at_builtin; refine Kind.wpList_appendN rfl _ _ rfl rfl (Kind.Own.nil (K := KI) (base := wr.heap.size)) rfl ((hro1.new (below_drewN hri2 _)).upto (k := q) hpl) (by simp; omega) KI_b (Nat.le_refl _) ?_; intro v3 w3 hv3 hg3; have hr3 : New wr w3 := Kind.Own.grown (below_drewN (New.rfl' wr) _) (Kind.Own.nil (K := KI)) hg3; clear hg3; rw [List.nil_append] at hv3; have hrw3 := hri.call hr3)
                | (at_builtin; refine Kind.wpList_append1 rfl _ _ rfl rfl (hv3.alloc _) l[k] w3.heap.size rfl (by go_simp) (by go_simp <;> rfl) (by rw [List.length_take]; omega) KI_b (Nat.le_trans hr3.size (by simp only [World.size_alloc]; omega)) ?_; intro v4 w4 hv4 _ hg4; have hr4 : New wr w4 := Kind.Own.grown (hr3.alloc' _) (hv3.alloc _) hg4; clear hg4)
                | (at_builtin; refine Kind.wpList_appendN rfl _ _ rfl rfl hv4 rfl (HR.out _ (hri2.call hr4)) (by simp only [List.length_append, List.length_take, List.length_drop, List.length_cons, List.length_nil]; omega) KI_b hr4.size ?_; intro v5 w5 hv5 hg5; have hr5 : New wr w5 := Kind.Own.grown hr4 hv4 hg5; clear hg5))
              go_roundw
              case rel => exact ⟨k + 1, by omega, by go_num, hri.call hr5, by rw [hst2.out, insQ, hqp.out]; exact hv5.lower hri.size⟩
              case measure => simp [intOf]; omega
            · have hcut := fun w' (h : New w1 w') => (hro1.new h).cut (k := q) (by omega) hc1
              by_cases hcp : c1 = q
              all_goals
                first
                | (have HR := Lib.hid (show ∀ w', New w1 w' → KI.Rd w' A1 (L.length - q) (L.drop q) from fun w' h => by have := hcut w' h; rwa [if_pos hcp] at this))
                | (have HR := Lib.hid (show ∀ w', New w1 w' → KI.Rd w' (Option.map (fun x => x.add (q * 11)) A1) (L.length - q) (L.drop q) from fun w' h => by have := hcut w' h; rwa [if_neg hcp] at this))
                clear hcut
                go_wp2_with fail
                go_quiet (fail)
                go_wp2_with (first
                  | (at_builtin; refine Kind.wpList_appendN rfl _ _ rfl rfl (Kind.Own.nil (K := KI) (base := wr.heap.size)) rfl ((hro1.new (below_drewN hri2 _)).upto (k := q) hpl) (by simp; omega) KI_b (Nat.le_refl _) ?_; intro v3 w3 hv3 hg3; have hr3 : New wr w3 := Kind.Own.grown (below_drewN (New.rfl' wr) _) (Kind.Own.nil (K := KI)) hg3; clear hg3; rw [List.nil_append] at hv3; have hrw3 := hri.call hr3)
                  | (at_builtin; refine Kind.wpList_append1 rfl _ _ rfl rfl (hv3.alloc _) l[k] w3.heap.size rfl (by go_simp) (by go_simp <;> rfl) (by rw [List.length_take]; omega) KI_b (Nat.le_trans hr3.size (by simp only [World.size_alloc]; omega)) ?_; intro v4 w4 hv4 _ hg4; have hr4 : New wr w4 := Kind.Own.grown (hr3.alloc' _) (hv3.alloc _) hg4; clear hg4)
                  | (at_builtin; refine Kind.wpList_appendN rfl _ _ rfl rfl hv4 rfl (HR.out _ (hri2.call hr4)) (by simp only [List.length_append, List.length_take, List.length_drop, List.length_cons, List.length_nil]; omega) KI_b hr4.size ?_; intro v5 w5 hv5 hg5; have hr5 : New wr w5 := Kind.Own.grown hr4 hv4 hg5; clear hg5))
                go_roundw
                case rel => exact ⟨k + 1, by omega, by go_num, hri.call hr5, by rw [hst2.out, insQ, hqp.out]; exact hv5.lower hri.size⟩
                case measure => simp [intOf]; omega
    · go_wp2_with fail
      go_ret
      exact ⟨_, rfl, by rw [List.take_of_length_le (by omega)] at hu; exact hu, hr⟩
end Go.Proofs.Ytkgebhmlogddcaa
