/- Contracts of the law of the layer clash: is an Id pending; items but one. -/
import Derived.Test.YtkgebhmlogddcaaPend2
import Derived.Test.YtkgebhmlogddcaaItemRef2
namespace Go.Proofs.Ytkgebhmlogddcaa
open Go.RowKit
set_option linter.unusedSimpArgs false
attribute [local go_sem] rowAt_alloc_at rowAt_alloc_past rowOk_alloc_at rowOk_alloc_past rowAt_drew rowOk_drew setRow_alloc_at setRow_alloc_past rowAt_setRow rowAt_setRow_far rowOk_setRow cell_rowOk frozen_rowOk setCell_rowOk setRow_setRow con_fold con_get con_size con_set set_all none8_cells equalIn_con storeCells_con
attribute [local go_sem] it_size it_0 it_1 it_2 it_3 it_4 it_5 it_6 it_7 it_8 it_9 it_10 it_set0 it_set1 it_set2 it_fold it_zero it_eta it_fill run_storeCells_it
attribute [local go_sem] sn_size sn_0 sn_1 sn_set0 sn_set1 sn_fold sn_eta sn_fill run_storeCells_sn eqg_sn eqg_it
attribute [local go_sem high] equalIn_sn equalIn_it
attribute [local go_sem] op_size op_0 op_1 op_2 op_3

theorem any_at {α : Type} (l : List α) (p : α → Bool) (k : Nat) (hk : k < l.length) (h : p l[k] = true) : l.any p = true := List.any_eq_true.2 ⟨_, List.getElem_mem hk, h⟩
theorem any_none {α : Type} (l : List α) (p : α → Bool) (h : ∀ q, (hq : q < l.length) → Hid (p l[q] = false)) : l.any p = false := by
  rw [← Bool.not_eq_true, List.any_eq_true]
  rintro ⟨x, hx, e⟩
  obtain ⟨q, hq, rfl⟩ := List.getElem_of_mem hx
  rw [(h q hq).out] at e; cases e
/-- is an Id pending, of a folder's items? -/
def pendB (v : List Sn) (l : List It) (fo id : Int) : Bool := (pendO v (inI l fo) 255).any fun o => o.2.2.1 == id
theorem inI_posI (l : List It) (fo : Int) (h : PosI l) : PosI (inI l fo) := by
  intro x hx
  unfold inI thoseI at hx
  split at hx
  · exact h x (List.mem_filter.1 hx).1
  · cases hx
theorem inI_len3 (l : List It) (fo : Int) : (inI l fo).length ≤ l.length := by
  unfold inI thoseI; split
  · exact List.length_filter_le _ _
  · simp
theorem pendO_len (v : List Sn) (l : List It) (gv : Int) : (pendO v l gv).length ≤ v.length + l.length := by
  unfold pendO
  split
  · have := List.length_filter_le (goneP l) v
    have := rise_len v l
    simp only [List.length_append, List.length_map]; omega
  · simp
set_option maxHeartbeats 800000 in
theorem pending_any (B : Option Addr) (m d : Nat) (v : List Sn) (A : Option Addr) (n c : Nat) (l : List It) (fo id : Int) (w : World) (hv : KS.Rd w B m v) (hl : KI.Rd w A n l) (hm : m ≤ 1000) (hn : n ≤ 1000) (hPv : PosS v) (hPl : PosI l) :
    Calls Try.prog 36 #[.slice B m d, .slice A n c, .int .u32 fo, .int .u32 id] w fun e w' => e = .returned (.bool (pendB v l fo id)) ∧ New w w' := by
  obtain rfl : v.length = m := hv.1
  obtain rfl : l.length = n := hl.1
  have hi := inI_len3 l fo
  have hp := inI_posI l fo hPl
  have hA1 := refin_i A l.length c l fo
  unfold pendB
  have hpl := pendO_len v (inI l fo) 255
  have hB1 := fun A n c w hv hl hn => rpend_any B v.length d v A n c (inI l fo) 255 w hv hl hm hn hPv hp (by omega) (by omega)
  generalize inI l fo = I at *
  generalize hPO : pendO v I 255 = P at *
  clear hPO
  go_enter Try.func36, Try.ntmps36
  go_wp2_with (first
    | (go_at_call 26; refine (hA1 _ hl (by omega) hPl).mono ?_; rintro e w1 ⟨u1, rfl, hu1, hb1⟩; obtain ⟨A1, c1, rfl, hc1, hr1⟩ := hu1.rd)
    | (go_at_call 59; refine (hB1 _ _ _ _ (hv.new hb1) hr1 (by omega)).mono ?_; rintro e w2 ⟨u2, rfl, hu2, hb⟩; obtain ⟨A2, c2, rfl, hc2, hr2⟩ := hu2.rd; have hb2 := New.call hb1 hb; clear hb))
  go_loopw [10] (fun i wr => ∃ k : Nat, k ≤ P.length ∧ i = .int .i64 k ∧ New w wr ∧ New w2 wr ∧ ∀ q, (h : q < P.length) → q < k → Hid ((P[q].2.2.1 == id) = false)) (fun i _ => P.length - (intOf i).toNat)
  case atStart => exact ⟨0, by omega, rfl, hb2, New.rfl' w2, fun _ _ h => absurd h (by omega)⟩
  case round =>
    obtain ⟨k, hk, rfl, hr, hr2', hq⟩ := hrel
    by_cases hlt : k < P.length
    · skip
      obtain ⟨bhr2, ohr2, rfl, hbhr2, hchr2⟩ := hr2.2 (by omega)
      have hrhr2 : ∀ w', New w2 w' → ∀ k (hk : k < P.length), w'.cell? ⟨bhr2, ohr2 + k * 12, none⟩ = (opA P[k])[0]? := fun w' hw k hk => (hw.cell (p := ⟨bhr2, _, none⟩) hbhr2).trans (hchr2 k hk 0 (by decide))
      have hshr2 : ∀ w', New w2 w' → ∀ k (hk : k < P.length) j, j < 12 → w'.cell? ⟨bhr2, ohr2 + k * 12 + j, none⟩ = (opA P[k])[j]? := fun w' hw k hk j hj => (hw.cell (p := ⟨bhr2, _, none⟩) hbhr2).trans (hchr2 k hk j hj)
      clear hchr2
      rcases Bool.eq_false_or_eq_true (P[k].2.2.1 == id) with h1 | h1
      · have H1 := Lib.hid h1
        go_wp2_with fail
        go_ret
        exact ⟨by rw [any_at P _ k hlt H1.out]; rfl, hr⟩
      · have H1 := Lib.hid h1
        go_wp2_with fail
        go_roundw
        case rel => exact ⟨k + 1, by omega, by go_num, hr, hr2', fun q h h2 => by
          rcases Nat.lt_succ_iff_lt_or_eq.1 h2 with h3 | rfl
          · exact hq q h h3
          · exact H1⟩
        case measure => simp [intOf]; omega
    · go_wp2_with fail
      go_ret
      exact ⟨by rw [any_none P (fun o => o.2.2.1 == id) fun q h => hq q h (by omega)]; rfl, hr⟩

/-- items but one -/
def butI (l : List It) (id : Int) : List It := l.filter fun x => x.1 != id
set_option maxHeartbeats 800000 in
set_option maxRecDepth 100000 in
theorem but_any (A : Option Addr) (n c : Nat) (l : List It) (id : Int) (w : World) (hl : KI.Rd w A n l) (hn : n ≤ 1000) :
    Calls Try.prog 33 #[.slice A n c, .int .u32 id] w fun e w' => ∃ v, e = .returned v ∧ KI.Own w' w.heap.size v (butI l id) ∧ New w w' := by
  obtain rfl : l.length = n := hl.1
  unfold butI
  go_enter Try.func33, Try.ntmps33
  have hwA := fun w' (h : New w w') n hn => rowAt_below h n hn
  have hwO := fun w' (h : New w w') n hn => rowOk_below h n hn
  have hwS := fun w' (h : New w w') n (hn : n < w.heap.size) => eq_true (Nat.lt_of_lt_of_le hn h.size)
  go_wp2_with fail
  go_loopw [5, 6] (fun v i wr => ∃ k : Nat, k ≤ l.length ∧ i = .int .i64 k ∧ New w wr ∧ KI.Own wr w.heap.size v ((l.take k).filter fun x => x.1 != id)) (fun _ i _ => l.length - (intOf i).toNat)
  case atStart => exact ⟨0, by omega, rfl, New.rfl' w, Kind.Own.nil⟩
  case round =>
    obtain ⟨k, hk, rfl, hr, hv⟩ := hrel
    by_cases hlt : k < l.length
    · have hst := Lib.hid (filter_step (fun x => x.1 != id) l k hlt)
      have hlen : ((l.take k).filter fun x => x.1 != id).length ≤ k := by have := List.length_filter_le (fun x : It => x.1 != id) (l.take k); rw [List.length_take] at this; omega
      obtain ⟨bhl, ohl, rfl, hbhl, hchl⟩ := hl.2 (by omega)
      have hrhl : ∀ w', New w w' → ∀ k (hk : k < l.length), w'.cell? ⟨bhl, ohl + k * 11, none⟩ = (itA l[k])[0]? := fun w' hw k hk => (hw.cell (p := ⟨bhl, _, none⟩) hbhl).trans (hchl k hk 0 (by decide))
      have hshl : ∀ w', New w w' → ∀ k (hk : k < l.length) j, j < 11 → w'.cell? ⟨bhl, ohl + k * 11 + j, none⟩ = (itA l[k])[j]? := fun w' hw k hk j hj => (hw.cell (p := ⟨bhl, _, none⟩) hbhl).trans (hchl k hk j hj)
      clear hchl
      generalize (l.take k).filter (fun x => x.1 != id) = L at *
      rcases Bool.eq_false_or_eq_true (l[k].1 != id) with h1 | h1
      · have hst2 := Lib.hid (show List.filter (fun x => x.1 != id) (l.take (k + 1)) = L ++ [l[k]] by rw [hst.out, h1]; rfl)
        go_wp2_with (first
          | (at_builtin; refine Kind.wpList_append1 rfl _ _ rfl rfl (hv.alloc _) l[k] wr.heap.size rfl (by go_simp) (by go_simp <;> rfl) (by omega) KI_b (by have := hr.size; simp only [World.size_alloc]; omega) ?_; intro v' w2 hv2 _ hg))
        go_roundw
        case rel => exact ⟨k + 1, by omega, by go_num, Kind.Own.grown (hr.alloc' _) (hv.alloc _) hg, by rw [hst2.out]; exact hv2⟩
        case measure => simp [intOf]; omega
      · have hst2 := Lib.hid (show List.filter (fun x => x.1 != id) (l.take (k + 1)) = L by rw [hst.out, h1]; simp)
        go_wp2_with fail
        go_roundw
        case rel => exact ⟨k + 1, by omega, by go_num, hr, by rw [hst2.out]; exact hv⟩
        case measure => simp [intOf]; omega
    · go_wp2_with fail
      go_ret
      exact ⟨_, rfl, by rw [List.take_of_length_le (by omega)] at hv; exact hv, hr⟩
end Go.Proofs.Ytkgebhmlogddcaa
