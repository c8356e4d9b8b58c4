/- Part 2 of 7 of the proof of ViewAll: Item2, Item3, Item4, Item5, ItemRef, ItemRef2, St, ItemRef3. Conditions: none beyond the given statement's own. -/
import Derived.Test.YtkgebhmlogddcaaMViewAll1
import Derived.Laws.CopyRow
/- Contracts of the layer item: one of them, those of a folder, what is added, changed and dropped. -/
namespace Go.Proofs.Ytkgebhmlogddcaa
open Go.RowKit
set_option linter.unusedSimpArgs false
attribute [local go_sem] rowAt_alloc_at rowAt_alloc_past rowOk_alloc_at rowOk_alloc_past rowAt_drew rowOk_drew setRow_alloc_at setRow_alloc_past rowAt_setRow rowAt_setRow_far rowOk_setRow cell_rowOk frozen_rowOk setCell_rowOk setRow_setRow con_fold con_get con_size con_set set_all none8_cells equalIn_con storeCells_con
attribute [local go_sem] it_size it_0 it_1 it_2 it_3 it_4 it_5 it_6 it_7 it_8 it_9 it_10 it_set0 it_set1 it_set2 it_fold it_zero it_eta it_fill run_storeCells_it

set_option maxHeartbeats 800000 in
theorem iFind_any (A : Option Addr) (n c : Nat) (l : List It) (id : Int) (w : World) (hl : KI.Rd w A n l) (hn : n ≤ 140737488355328) :
    Calls Try.prog 22 #[.slice A n c, .int .u32 id] w fun e w' => e = .returned (.tuple #[.agg (itA ((findI l id).getD itZ)), .bool (findI l id).isSome]) ∧ New w w' := by
  rcases Bool.eq_false_or_eq_true (mayI l) with hm | hm
  · rcases Bool.eq_false_or_eq_true (hasI l id) with hh | hh
    · obtain ⟨hp, hpe, hf⟩ := pos_has l id (risI_of l hm) hh
      clear hpe
      have hx : findI l id = some l[posI l id] := by rw [findI, if_pos hm, hf]
      have h0 : 0 < n := by have := hl.1; omega
      rw [hx]
      have hris := Lib.hid (risI_of l hm)
      have hA1 := imay_any A n c l
      rw [hm] at hA1
      have HA := Lib.hid hA1
      have hB1 := ifind_any A n c l id
      rw [hh] at hB1
      have HB := Lib.hid hB1
      clear hx hf hA1 hB1 hm hh
      obtain rfl : l.length = n := hl.1
      generalize hpp : posI l id = p at *
      have Hpp := Lib.hid hpp
      clear hpp
      go_enter Try.func22, Try.ntmps22
      go_wp2_with fail
      have hnW : New w (w.alloc (Obj.cells (itA itZ) 28)) := (New.rfl' w).alloc' _
      generalize hW : (w.alloc (Obj.cells (itA itZ) 28)) = W at *
      have hWz0 : w.heap.size < W.heap.size := by rw [← hW]; simp only [World.size_alloc]; omega
      have hWa0 : rowAt W (w.heap.size) = itA itZ := by rw [← hW]; simp [go_sem]
      have hWo0 : rowOk W (w.heap.size) = true := by rw [← hW]; simp [go_sem]
      clear hW
      have hWA := fun w' (h : New W w') n hn => rowAt_below h n hn
      have hWO := fun w' (h : New W w') n hn => rowOk_below h n hn
      have hWS := fun w' (h : New W w') n (hn : n < W.heap.size) => eq_true (Nat.lt_of_lt_of_le hn h.size)
      have hl2 := hl.new hnW
      have hl3 := hl2
      have hr := New.rfl' W
      obtain ⟨bhl2, ohl2, rfl, hbhl2, hchl2⟩ := hl2.2 (by omega)
      have hrhl2 : ∀ w', New W w' → ∀ k (hk : k < l.length), w'.cell? ⟨bhl2, ohl2 + k * 11, none⟩ = (itA l[k])[0]? := fun w' hw k hk => (hw.cell (p := ⟨bhl2, _, none⟩) hbhl2).trans (hchl2 k hk 0 (by decide))
      have hshl2 : ∀ w', New W w' → ∀ k (hk : k < l.length) j, j < 11 → w'.cell? ⟨bhl2, ohl2 + k * 11 + j, none⟩ = (itA l[k])[j]? := fun w' hw k hk j hj => (hw.cell (p := ⟨bhl2, _, none⟩) hbhl2).trans (hchl2 k hk j hj)
      clear hchl2
      go_wp2_with (first
        | (go_at_call 21; refine (HA.out _ hl3 hn).mono ?_; rintro e w1 ⟨rfl, hb1⟩)
        | (go_at_call 47; refine (HB.out _ (hl3.new hb1) hn hris.out).mono ?_; rintro e w2 ⟨rfl, hb⟩; have hb2 := New.call hb1 hb; clear hb))
      exact bodyPost_ret (results_it2 rfl _ _ w.heap.size _ rfl (by go_simp) (by go_simp)) rfl ⟨rfl, (hnW.call hb2).row _ _ (Nat.le_refl _)⟩
    · have hx : findI l id = none := by
        have := findI_has l id hm
        rw [hh] at this
        simpa using this
      rw [hx]
      have hris := Lib.hid (risI_of l hm)
      have hA1 := imay_any A n c l
      rw [hm] at hA1
      have HA := Lib.hid hA1
      have hB1 := ifind_any A n c l id
      rw [hh] at hB1
      have HB := Lib.hid hB1
      clear hx hA1 hB1 hm hh
      obtain rfl : l.length = n := hl.1
      go_enter Try.func22, Try.ntmps22
      go_wp2_with fail
      have hnW : New w (w.alloc (Obj.cells (itA itZ) 28)) := (New.rfl' w).alloc' _
      generalize hW : (w.alloc (Obj.cells (itA itZ) 28)) = W at *
      have hWz0 : w.heap.size < W.heap.size := by rw [← hW]; simp only [World.size_alloc]; omega
      have hWa0 : rowAt W (w.heap.size) = itA itZ := by rw [← hW]; simp [go_sem]
      have hWo0 : rowOk W (w.heap.size) = true := by rw [← hW]; simp [go_sem]
      clear hW
      have hWA := fun w' (h : New W w') n hn => rowAt_below h n hn
      have hWO := fun w' (h : New W w') n hn => rowOk_below h n hn
      have hWS := fun w' (h : New W w') n (hn : n < W.heap.size) => eq_true (Nat.lt_of_lt_of_le hn h.size)
      have hl2 := hl.new hnW
      have hr := New.rfl' W
      go_wp2_with (first
        | (go_at_call 21; refine (HA.out _ hl2 hn).mono ?_; rintro e w1 ⟨rfl, hb1⟩)
        | (go_at_call 47; refine (HB.out _ (hl2.new hb1) hn hris.out).mono ?_; rintro e w2 ⟨rfl, hb⟩; have hb2 := New.call hb1 hb; clear hb))
      exact bodyPost_ret (results_it2 rfl _ _ w.heap.size itZ rfl (by go_simp) (by go_simp)) rfl ⟨rfl, (hnW.call hb2).row _ _ (Nat.le_refl _)⟩
  · have hx : findI l id = none := by simp [findI, hm]
    rw [hx]
    have hA1 := imay_any A n c l
    rw [hm] at hA1
    have HA := Lib.hid hA1
    clear hx hA1 hm
    obtain rfl : l.length = n := hl.1
    go_enter Try.func22, Try.ntmps22
    go_wp2_with fail
    have hnW : New w (w.alloc (Obj.cells (itA itZ) 28)) := (New.rfl' w).alloc' _
    generalize hW : (w.alloc (Obj.cells (itA itZ) 28)) = W at *
    have hWz0 : w.heap.size < W.heap.size := by rw [← hW]; simp only [World.size_alloc]; omega
    have hWa0 : rowAt W (w.heap.size) = itA itZ := by rw [← hW]; simp [go_sem]
    have hWo0 : rowOk W (w.heap.size) = true := by rw [← hW]; simp [go_sem]
    clear hW
    have hWA := fun w' (h : New W w') n hn => rowAt_below h n hn
    have hWO := fun w' (h : New W w') n hn => rowOk_below h n hn
    have hWS := fun w' (h : New W w') n (hn : n < W.heap.size) => eq_true (Nat.lt_of_lt_of_le hn h.size)
    have hl2 := hl.new hnW
    go_wp2_with (first
      | (go_at_call 21; refine (HA.out _ hl2 hn).mono ?_; rintro e w1 ⟨rfl, hb1⟩))
    exact bodyPost_ret (results_it2 rfl _ _ w.heap.size itZ rfl (by go_simp) (by go_simp)) rfl ⟨rfl, (hnW.call hb1).row _ _ (Nat.le_refl _)⟩
end Go.Proofs.Ytkgebhmlogddcaa
/- Contracts of the layer item: those of a folder, those without some folders. -/
namespace Go.Proofs.Ytkgebhmlogddcaa
open Go.RowKit
set_option linter.unusedSimpArgs false
attribute [local go_sem] rowAt_alloc_at rowAt_alloc_past rowOk_alloc_at rowOk_alloc_past rowAt_drew rowOk_drew setRow_alloc_at setRow_alloc_past rowAt_setRow rowAt_setRow_far rowOk_setRow cell_rowOk frozen_rowOk setCell_rowOk setRow_setRow con_fold con_get con_size con_set set_all none8_cells equalIn_con storeCells_con
attribute [local go_sem] it_size it_0 it_1 it_2 it_3 it_4 it_5 it_6 it_7 it_8 it_9 it_10 it_set0 it_set1 it_set2 it_fold it_zero it_eta it_fill run_storeCells_it

/-! ### is a number among others? -/
def inU (x : Int) (l : List Int) : Bool := l.contains x
def IdxOf (l : List Int) (x i : Int) : Prop := decide (0 ≤ i) = inU x l
set_option maxHeartbeats 400000 in
theorem uindex_any (A : Option Addr) (n c : Nat) (l : List Int) (x : Int) (w : World) (hl : KU.Rd w A n l) (hn : n ≤ 140737488355328) :
    Calls Try.prog 72 #[.slice A n c, .int .u32 x] w fun e w' => ∃ i : Int, e = .returned (.int .i64 i) ∧ IdxOf l x i ∧ w = w' := by
  obtain rfl : l.length = n := hl.1
  go_enter Try.func72, Try.ntmps72
  go_wp2_with fail
  have hr := New.rfl' w
  go_loop [8] (fun i => ∃ k : Nat, k ≤ l.length ∧ i = .int .i64 k ∧ Hid (∀ q, (h : q < l.length) → q < k → l[q] ≠ x)) (fun i => l.length - (intOf i).toNat)
  case atStart => exact ⟨0, by omega, rfl, fun q _ h => by omega⟩
  case round =>
    obtain ⟨k, hk, rfl, hq⟩ := hrel
    by_cases hlt : k < l.length
    · skip
      obtain ⟨bhl, ohl, rfl, hbhl, hchl⟩ := hl.2 (by omega)
      have hrhl : ∀ w', New w w' → ∀ k (hk : k < l.length), w'.cell? ⟨bhl, ohl + k, none⟩ = some (.int .u32 l[k]) := fun w' hw k hk => by have h1 := (hw.cell (p := ⟨bhl, _, none⟩) hbhl).trans (hchl k hk 0 (by decide)); simpa [KU_enc, KU_sz] using h1
      clear hchl
      by_cases he : x = l[k]
      · have he' : (x == l[k]) = true := by simpa using he
        have HE := Lib.hid he
        clear he
        go_wp2
        go_ret
        refine ⟨k, rfl, ?_, rfl⟩
        rw [IdxOf, decide_eq_true (by omega), eq_comm, inU, List.contains_iff_mem, HE.out]
        exact List.getElem_mem hlt
      · have he' : (x == l[k]) = false := by simpa using he
        have HE := Lib.hid he
        clear he
        go_wp2
        go_round
        case rel =>
          refine ⟨k + 1, by omega, by go_num, fun q h hqk => ?_⟩
          by_cases e : q = k
          · subst e; exact fun hh => HE.out hh.symm
          · exact hq.out q h (by omega)
        case measure => simp [intOf]; omega
    · go_wp2
      go_ret
      refine ⟨-1, rfl, ?_, rfl⟩
      rw [IdxOf, decide_eq_false (by omega), eq_comm, ← Bool.not_eq_true, inU, List.contains_iff_mem]
      intro hm
      obtain ⟨q, h, e⟩ := List.getElem_of_mem hm
      exact hq.out q h (by omega) e
set_option maxHeartbeats 400000 in
theorem ucontains_any (A : Option Addr) (n c : Nat) (l : List Int) (x : Int) (w : World) (hl : KU.Rd w A n l) (hn : n ≤ 140737488355328) :
    Calls Try.prog 53 #[.slice A n c, .int .u32 x] w fun e w' => e = .returned (.bool (inU x l)) ∧ w = w' := by
  go_enter Try.func53, Try.ntmps53
  go_wp2_with (first | (go_at_call 72; refine (uindex_any A n c l x _ hl hn).mono ?_; rintro e w' ⟨i, rfl, hi, rfl⟩; have Hi := Lib.hid hi; clear hi))
  go_ret
  have h := Hi.out
  unfold IdxOf at h
  exact ⟨by rw [← h]; rfl, rfl⟩

/-! ### the predicates -/
set_option maxHeartbeats 400000 in
theorem in1_any (x : It) (g : Nat) (fo : Int) (w : World) (hok : rowOk w g = true) (hg : rowAt w g = #[.int .u32 fo]) :
    Calls Try.prog 51 #[.agg (itA x), .pointer (some ⟨g, 0, none⟩)] w fun e w' => e = .returned (.bool (x.2.1 == fo)) ∧ New w w' := by
  have hlt := rowOk_lt w hok
  go_enter Try.func51, Try.ntmps51
  go_wp2
  go_ret
  exact ⟨rfl, (New.rfl' w).alloc' _⟩
set_option maxHeartbeats 400000 in
theorem without1_any (x : It) (g : Nat) (A : Option Addr) (n c : Nat) (l : List Int) (w : World) (hok : rowOk w g = true) (hg : rowAt w g = #[.slice A n c]) (hl : KU.Rd w A n l) (hn : n ≤ 140737488355328) :
    Calls Try.prog 52 #[.agg (itA x), .pointer (some ⟨g, 0, none⟩)] w fun e w' => e = .returned (.bool (!inU x.2.1 l)) ∧ New w w' := by
  have hlt := rowOk_lt w hok
  go_enter Try.func52, Try.ntmps52
  go_wp2_with (first | (go_at_call 53; refine (ucontains_any A n c l _ _ (hl.alloc _) hn).mono ?_; rintro e w' ⟨rfl, rfl⟩))
  go_ret
  exact ⟨rfl, (New.rfl' w).alloc' _⟩

/-! ### those of which something holds -/
def thoseI (l : List It) (p : It → Bool) : List It := if mayI l then l.filter p else []
theorem filter_step {α : Type} (p : α → Bool) (l : List α) (k : Nat) (hk : k < l.length) : (l.take (k + 1)).filter p = (l.take k).filter p ++ (if p l[k] then [l[k]] else []) := by
  rw [List.take_succ_eq_append_getElem hk, List.filter_append]
  by_cases h : p l[k] = true <;> simp [h]

set_option maxHeartbeats 800000 in
set_option maxRecDepth 100000 in
theorem those_any (A : Option Addr) (n c : Nat) (l : List It) (g : Nat) (cap : Value) (p : It → Bool) (w : World) (hl : KI.Rd w A n l) (hn : n ≤ 140737488355328)
    (hcall : ∀ args w', (callFunc g args).run Try.prog w' = .ok (.enter g args) w') (hp : ∀ x w', New w w' → Calls Try.prog g #[.agg (itA x), cap] w' fun e w'' => e = .returned (.bool (p x)) ∧ New w' w'') :
    Calls Try.prog 50 #[.slice A n c, .func (.func g) #[] #[cap]] w fun e w' => ∃ v, e = .returned v ∧ KI.Own w' w.heap.size v (thoseI l p) ∧ New w w' := by
  obtain rfl : l.length = n := hl.1
  have HP := Lib.hid hp
  clear hp
  rcases Bool.eq_false_or_eq_true (mayI l) with hm | hm
  · have h40 := mayI_len l hm
    have hth : thoseI l p = l.filter p := by simp [thoseI, hm]
    rw [hth]
    have hA1 := imay_any A l.length c l
    rw [hm] at hA1
    have HA := Lib.hid hA1
    clear hA1 hth hm
    have hl0 := hl
    go_enter Try.func50, Try.ntmps50
    have hwA := fun w' (h : New w w') n hn => rowAt_below h n hn
    have hwO := fun w' (h : New w w') n hn => rowOk_below h n hn
    have hwS := fun w' (h : New w w') n (hn : n < w.heap.size) => eq_true (Nat.lt_of_lt_of_le hn h.size)
    go_wp2_with (first | (go_at_call 21; refine (HA.out _ hl0 hn).mono ?_; rintro e w1 ⟨rfl, hb1⟩))
    go_loopw [5, 13] (fun v i wr => ∃ k : Nat, k ≤ l.length ∧ i = .int .i64 k ∧ New w wr ∧ KI.Own wr w.heap.size v ((l.take k).filter p)) (fun _ i _ => l.length - (intOf i).toNat)
    case atStart => exact ⟨0, by omega, rfl, hb1, Kind.Own.nil⟩
    case round =>
      obtain ⟨k, hk, rfl, hr, hv⟩ := hrel
      by_cases hlt : k < l.length
      · have hst := Lib.hid (filter_step p l k hlt)
        have hlen : ((l.take k).filter p).length ≤ k := by have := List.length_filter_le p (l.take k); rw [List.length_take] at this; omega
        obtain ⟨bhl, ohl, rfl, hbhl, hchl⟩ := hl.2 (by omega)
        have hrhl : ∀ w', New w w' → ∀ k (hk : k < l.length), w'.cell? ⟨bhl, ohl + k * 11, none⟩ = (itA l[k])[0]? := fun w' hw k hk => (hw.cell (p := ⟨bhl, _, none⟩) hbhl).trans (hchl k hk 0 (by decide))
        have hshl : ∀ w', New w w' → ∀ k (hk : k < l.length) j, j < 11 → w'.cell? ⟨bhl, ohl + k * 11 + j, none⟩ = (itA l[k])[j]? := fun w' hw k hk j hj => (hw.cell (p := ⟨bhl, _, none⟩) hbhl).trans (hchl k hk j hj)
        clear hchl
        go_wp2_with fail
        have hr1 := hr.alloc' (Obj.cells (itA l[k]) 28)
        refine (HP.out _ _ hr1).mono ?_
        rintro e w1 ⟨rfl, hb⟩
        have hv1 := (hv.alloc (Obj.cells (itA l[k]) 28)).new hb
        have hA1 := rowAt_below hb wr.heap.size (by simp)
        have hO1 := rowOk_below hb wr.heap.size (by simp)
        simp only [rowAt_alloc_at _ _ _ _ rfl, rowOk_alloc_at _ _ _ _ rfl] at hA1 hO1
        have hr2 := hr1.call hb
        have hz := hb.size
        simp only [World.size_alloc] at hz
        clear hb hr1
        generalize hpk : p l[k] = pk at *
        have Hpk := Lib.hid hpk
        clear hpk
        cases pk
        · go_wp2_with fail
          go_roundw
          case rel => exact ⟨k + 1, by omega, by go_num, hr2, by rw [hst.out]; simpa using hv1⟩
          case measure => simp [intOf]; omega
        · go_wp2_with (first | (at_builtin; refine Kind.wpList_append1 rfl _ _ rfl rfl (hv1.alloc _) l[k] w1.heap.size rfl (by go_simp) (by go_simp <;> rfl) (by omega) KI_b (by have := hr2.size; simp only [World.size_alloc]; omega) ?_; intro v' w2 hv2 _ hg))
          go_roundw
          case rel => exact ⟨k + 1, by omega, by go_num, Kind.Own.grown (hr2.alloc' _) (hv1.alloc _) hg, by rw [hst.out]; simpa using hv2⟩
          case measure => simp [intOf]; omega
      · go_wp2_with fail
        go_ret
        exact ⟨_, rfl, by rw [List.take_of_length_le (by omega)] at hv; exact hv, hr⟩
  · have hth : thoseI l p = [] := by simp [thoseI, hm]
    rw [hth]
    have hA1 := imay_any A l.length c l
    rw [hm] at hA1
    have HA := Lib.hid hA1
    clear hA1 hth hm
    go_enter Try.func50, Try.ntmps50
    go_wp2_with (first | (go_at_call 21; refine (HA.out _ hl hn).mono ?_; rintro e w1 ⟨rfl, hb1⟩))
    go_ret
    exact ⟨_, rfl, Kind.Own.nil, hb1⟩

/-! ### the items of a folder, and those that are in none of some -/
theorem call_in1 (args : Array Value) (w : World) : (callFunc 51 args).run Try.prog w = .ok (.enter 51 args) w := call_go Try.func51 (by kernel_rfl) (by kernel_rfl) args w
theorem call_without1 (args : Array Value) (w : World) : (callFunc 52 args).run Try.prog w = .ok (.enter 52 args) w := call_go Try.func52 (by kernel_rfl) (by kernel_rfl) args w
def inI (l : List It) (fo : Int) : List It := thoseI l fun x => x.2.1 == fo
def withoutI (l : List It) (fs : List Int) : List It := thoseI l fun x => !inU x.2.1 fs
set_option maxHeartbeats 400000 in
theorem iIn_any (A : Option Addr) (n c : Nat) (l : List It) (fo : Int) (w : World) (hl : KI.Rd w A n l) (hn : n ≤ 140737488355328) :
    Calls Try.prog 20 #[.slice A n c, .int .u32 fo] w fun e w' => ∃ v, e = .returned v ∧ KI.Own w' w.heap.size v (inI l fo) ∧ New w w' := by
  go_enter Try.func20, Try.ntmps20
  go_wp2_with fail
  have hnW : New w (w.alloc (Obj.cells (#[.int .u32 fo]) 23)) := (New.rfl' w).alloc' _
  generalize hW : (w.alloc (Obj.cells (#[.int .u32 fo]) 23)) = W at *
  have hWz0 : w.heap.size < W.heap.size := by rw [← hW]; simp only [World.size_alloc]; omega
  have hWa0 : rowAt W (w.heap.size) = #[.int .u32 fo] := by rw [← hW]; simp [go_sem]
  have hWo0 : rowOk W (w.heap.size) = true := by rw [← hW]; simp [go_sem]
  clear hW
  have hWA := fun w' (h : New W w') n hn => rowAt_below h n hn
  have hWO := fun w' (h : New W w') n hn => rowOk_below h n hn
  have hWS := fun w' (h : New W w') n (hn : n < W.heap.size) => eq_true (Nat.lt_of_lt_of_le hn h.size)
  refine (those_any A n c l 51 (.pointer (some ⟨w.heap.size, 0, none⟩)) (fun x => x.2.1 == fo) W (hl.new hnW) hn call_in1 (fun x w' h => in1_any x w.heap.size fo w' (by rw [hWO w' h _ hWz0, hWo0]) (by rw [hWA w' h _ hWz0, hWa0]))).mono ?_
  rintro e w1 ⟨v, rfl, hv, hb⟩
  have hv' := hv.lower (b := w.heap.size) (by omega)
  go_wp2_with fail
  go_ret
  exact ⟨v, rfl, hv', hnW.call hb⟩
set_option maxHeartbeats 400000 in
theorem iWithout_any (A : Option Addr) (n c : Nat) (l : List It) (B : Option Addr) (m d : Nat) (fs : List Int) (w : World) (hl : KI.Rd w A n l) (hn : n ≤ 140737488355328) (hf : KU.Rd w B m fs) (hm : m ≤ 140737488355328) :
    Calls Try.prog 23 #[.slice A n c, .slice B m d] w fun e w' => ∃ v, e = .returned v ∧ KI.Own w' w.heap.size v (withoutI l fs) ∧ New w w' := by
  go_enter Try.func23, Try.ntmps23
  go_wp2_with fail
  have hnW : New w (w.alloc (Obj.cells (#[.slice B m d]) 43)) := (New.rfl' w).alloc' _
  generalize hW : (w.alloc (Obj.cells (#[.slice B m d]) 43)) = W at *
  have hWz0 : w.heap.size < W.heap.size := by rw [← hW]; simp only [World.size_alloc]; omega
  have hWa0 : rowAt W (w.heap.size) = #[.slice B m d] := by rw [← hW]; simp [go_sem]
  have hWo0 : rowOk W (w.heap.size) = true := by rw [← hW]; simp [go_sem]
  clear hW
  have hWA := fun w' (h : New W w') n hn => rowAt_below h n hn
  have hWO := fun w' (h : New W w') n hn => rowOk_below h n hn
  have hWS := fun w' (h : New W w') n (hn : n < W.heap.size) => eq_true (Nat.lt_of_lt_of_le hn h.size)
  refine (those_any A n c l 52 (.pointer (some ⟨w.heap.size, 0, none⟩)) (fun x => !inU x.2.1 fs) W (hl.new hnW) hn call_without1 (fun x w' h => without1_any x w.heap.size B m d fs w' (by rw [hWO w' h _ hWz0, hWo0]) (by rw [hWA w' h _ hWz0, hWa0]) ((hf.new hnW).new h) hm)).mono ?_
  rintro e w1 ⟨v, rfl, hv, hb⟩
  have hv' := hv.lower (b := w.heap.size) (by omega)
  go_wp2_with fail
  go_ret
  exact ⟨v, rfl, hv', hnW.call hb⟩
end Go.Proofs.Ytkgebhmlogddcaa
/- Contracts of the layer item: what is added, changed and dropped. -/
namespace Go.Proofs.Ytkgebhmlogddcaa
open Go.RowKit
set_option linter.unusedSimpArgs false
attribute [local go_sem] rowAt_alloc_at rowAt_alloc_past rowOk_alloc_at rowOk_alloc_past rowAt_drew rowOk_drew setRow_alloc_at setRow_alloc_past rowAt_setRow rowAt_setRow_far rowOk_setRow cell_rowOk frozen_rowOk setCell_rowOk setRow_setRow con_fold con_get con_size con_set set_all none8_cells equalIn_con storeCells_con
attribute [local go_sem] it_size it_0 it_1 it_2 it_3 it_4 it_5 it_6 it_7 it_8 it_9 it_10 it_set0 it_set1 it_set2 it_fold it_zero it_eta it_fill run_storeCells_it

/-- a part: its slice, and what it reads as -/
abbrev Part := Option Addr × Nat × Nat × List It
def partV (p : Part) : Value := .slice p.1 p.2.1 p.2.2.1
def partsL (ps : List Part) : List It := ps.flatMap fun p => p.2.2.2
theorem parts_step (ps : List Part) (k : Nat) (hk : k < ps.length) : partsL (ps.take (k + 1)) = partsL (ps.take k) ++ ps[k].2.2.2 := by
  unfold partsL; rw [List.take_succ_eq_append_getElem hk, List.flatMap_append]; simp
theorem parts_len (ps : List Part) (k : Nat) (hk : k < ps.length) : (partsL (ps.take k)).length + ps[k].2.2.2.length ≤ (partsL ps).length := by
  have h1 := parts_step ps k hk
  have h2 : partsL ps = partsL (ps.take (k + 1)) ++ partsL (ps.drop (k + 1)) := by
    unfold partsL
    rw [← List.flatMap_append, List.take_append_drop]
  have h3 := congrArg List.length h2
  rw [h1] at h3
  simp only [List.length_append] at h3
  omega

set_option maxHeartbeats 800000 in
theorem cut_any (g m : Nat) (ps : List Part) (w : World) (hok : rowOk w g = true) (hg : rowAt w g = (ps.map partV).toArray) (hm : ps.length = m) (hps : ∀ k, (h : k < ps.length) → KI.Rd w ps[k].1 ps[k].2.1 ps[k].2.2.2)
    (hlen : (partsL ps).length ≤ 1000) (hm2 : m ≤ 1000) :
    Calls Try.prog 48 #[.slice (some ⟨g, 0, none⟩) m m] w fun e w' => ∃ v, e = .returned v ∧ KI.Own w' w.heap.size v (partsL ps) ∧ New w w' := by
  subst hm
  have HP := Lib.hid hps
  have HG := Lib.hid hg
  clear hps hg
  go_enter Try.func48, Try.ntmps48
  have hwA := fun w' (h : New w w') n hn => rowAt_below h n hn
  have hwO := fun w' (h : New w w') n hn => rowOk_below h n hn
  have hwS := fun w' (h : New w w') n (hn : n < w.heap.size) => eq_true (Nat.lt_of_lt_of_le hn h.size)
  go_wp2_with fail
  go_loopw [3, 8] (fun v i wr => ∃ k : Nat, k ≤ ps.length ∧ i = .int .i64 k ∧ New w wr ∧ KI.Own wr w.heap.size v (partsL (ps.take k))) (fun _ i _ => ps.length - (intOf i).toNat)
  case atStart => exact ⟨0, by omega, rfl, New.rfl' w, Kind.Own.nil⟩
  case round =>
    obtain ⟨k, hk, rfl, hr, hv⟩ := hrel
    by_cases hlt : k < ps.length
    · have hst := Lib.hid (parts_step ps k hlt)
      have hle := parts_len ps k hlt
      have hpk := (HP.out k hlt).new hr
      have hcell : wr.cell? ⟨g, k, none⟩ = some (partV ps[k]) := by
        have hlt2 := rowOk_lt w hok
        rw [cell_rowOk wr (by rw [hwO wr hr g hlt2, hok]), hwA wr hr g hlt2, HG.out]
        simp [hlt]
      generalize ps[k] = p at *
      obtain ⟨A, n, c, l⟩ := p
      change wr.cell? ⟨g, k, none⟩ = some (Value.slice A n c) at hcell
      change KI.Rd wr A n l at hpk
      dsimp only at hle
      go_wp2_with (first | (at_builtin; refine Kind.wpList_appendN rfl _ _ rfl rfl hv rfl hpk (by omega) KI_b (by have := hr.size; omega) ?_; intro v' w2 hv2 hg2))
      go_roundw
      case rel => exact ⟨k + 1, by omega, by go_num, Kind.Own.grown hr hv hg2, by rw [hst.out]; exact hv2⟩
      case measure => simp [intOf]; omega
    · go_wp2_with fail
      go_ret
      exact ⟨_, rfl, by rw [List.take_of_length_le (by omega)] at hv; exact hv, hr⟩

/-! ### what is added -/
def insI (l : List It) (x : It) : List It := l.take (posI l x.1) ++ [x] ++ l.drop (posI l x.1)
theorem insI_eq (l : List It) (x : It) : insI l x = l.take (posI l x.1) ++ [x] ++ l.drop (posI l x.1) := rfl
def addI (l : List It) (x : It) : List It × Int :=
  if !mayI l || x.1 == 0 || x.2.1 == 0 then ([], 2) else if hasI l x.1 then ([], 8) else if l.length = 40 then ([], 3) else (insI l x, 0)
theorem posI_le (l : List It) (id : Int) : posI l id ≤ l.length := by
  unfold posI
  have h : ∀ (p : It → Bool) (l : List It), (l.takeWhile p).length ≤ l.length := by
    intro p l
    induction l with
    | nil => simp
    | cons y l ih => rw [List.takeWhile_cons]; split <;> simp <;> omega
  exact h _ l

theorem cut3_any {w0 : World} {A B : Option Addr} {n c p q e g h : Nat} {l r res : List It} {x : It} (hl : KI.Rd w0 A n l) (hp : p ≤ n) (hB : KI.Rd w0 B q r) (hlen : n < 101) (hq : q < 101) (hres : l.take p ++ [x] ++ r = res)
    (w : World) (hn : New w0 w) (hok : rowOk w g = true) (hg : rowAt w g = itA x) (hok2 : rowOk w h = true) (hg2 : rowAt w h = #[.slice A p c, .slice (some ⟨g, 0, none⟩) 1 1, .slice B q e]) :
    Calls Try.prog 48 #[.slice (some ⟨h, 0, none⟩) 3 3] w fun e w' => ∃ A' c', e = .returned (.slice A' res.length c') ∧ KI.Own w' w.heap.size (.slice A' res.length c') res ∧ New w w' := by
  have hle := hl.1
  have hle2 := hB.1
  have he : partsL [((A, p, c, l.take p) : Part), (some ⟨g, 0, none⟩, 1, 1, [x]), (B, q, e, r)] = res := by rw [← hres]; simp [partsL]
  have := cut_any h 3 [((A, p, c, l.take p) : Part), (some ⟨g, 0, none⟩, 1, 1, [x]), (B, q, e, r)] w hok2 hg2 rfl (by
    intro k hk
    match k, hk with
    | 0, _ => exact (hl.upto hp).new hn
    | 1, _ => exact Kind.Rd.single hok hg
    | 2, _ => exact hB.new hn) (by rw [he, ← hres]; simp; omega) (by omega)
  rw [he] at this
  refine this.mono ?_
  rintro e w4 ⟨v, rfl, hv, hb⟩
  obtain ⟨A', c', rfl, _⟩ := hv.form
  exact ⟨_, _, rfl, hv, hb⟩
theorem cut2_any {w0 : World} {A B : Option Addr} {n c p q e h : Nat} {l r res : List It} (hl : KI.Rd w0 A n l) (hp : p ≤ n) (hB : KI.Rd w0 B q r) (hlen : n < 101) (hq : q < 101) (hres : l.take p ++ r = res)
    (w : World) (hn : New w0 w) (hok2 : rowOk w h = true) (hg2 : rowAt w h = #[.slice A p c, .slice B q e]) :
    Calls Try.prog 48 #[.slice (some ⟨h, 0, none⟩) 2 2] w fun e w' => ∃ A' c', e = .returned (.slice A' res.length c') ∧ KI.Own w' w.heap.size (.slice A' res.length c') res ∧ New w w' := by
  have hle := hl.1
  have hle2 := hB.1
  have he : partsL [((A, p, c, l.take p) : Part), (B, q, e, r)] = res := by rw [← hres]; simp [partsL]
  have := cut_any h 2 [((A, p, c, l.take p) : Part), (B, q, e, r)] w hok2 hg2 rfl (by
    intro k hk
    match k, hk with
    | 0, _ => exact (hl.upto hp).new hn
    | 1, _ => exact hB.new hn) (by rw [he, ← hres]; simp; omega) (by omega)
  rw [he] at this
  refine this.mono ?_
  rintro e w4 ⟨v, rfl, hv, hb⟩
  obtain ⟨A', c', rfl, _⟩ := hv.form
  exact ⟨_, _, rfl, hv, hb⟩

set_option maxHeartbeats 800000 in
theorem iAdd_ok (A : Option Addr) (n c : Nat) (l : List It) (x : It) (w : World) (hl : KI.Rd w A n l) (hc : n ≤ c) (hm : mayI l = true) (h1 : (x.1 == 0) = false) (h2 : (x.2.1 == 0) = false) (h3 : hasI l x.1 = false) (h4 : l.length < 40) :
    Calls Try.prog 12 #[.slice A n c, .agg (itA x)] w fun e w' => ∃ v, e = .returned (.tuple #[v, .int .i64 0]) ∧ KI.Own w' w.heap.size v (insI l x) ∧ New w w' := by
  obtain rfl : l.length = n := hl.1
  have hple := posI_le l x.1
  have hA1 := imay_any A l.length c l
  rw [hm] at hA1
  have HA := Lib.hid hA1
  have hris := Lib.hid (risI_of l hm)
  have hB1 := ifind_any A l.length c l x.1
  rw [h3] at hB1
  have HB := Lib.hid hB1
  have hins := Lib.hid (insI_eq l x)
  have h40 : ((l.length : Int) == 40) = false := by simp; omega
  clear hA1 hB1 hm h3
  generalize hpp : posI l x.1 = p at *
  have Hpp := Lib.hid hpp
  clear hpp
  go_enter Try.func12, Try.ntmps12
  go_wp2_with fail
  have hnW : New w (w.alloc (Obj.cells (itA x) 28)) := (New.rfl' w).alloc' _
  generalize hW : (w.alloc (Obj.cells (itA x) 28)) = W at *
  have hWz0 : w.heap.size < W.heap.size := by rw [← hW]; simp only [World.size_alloc]; omega
  have hWa0 : rowAt W (w.heap.size) = itA x := by rw [← hW]; simp [go_sem]
  have hWo0 : rowOk W (w.heap.size) = true := by rw [← hW]; simp [go_sem]
  clear hW
  have hWA := fun w' (h : New W w') n hn => rowAt_below h n hn
  have hWO := fun w' (h : New W w') n hn => rowOk_below h n hn
  have hWS := fun w' (h : New W w') n (hn : n < W.heap.size) => eq_true (Nat.lt_of_lt_of_le hn h.size)
  have hl2 := hl.new hnW
  go_wp2_with (first
    | (go_at_call 21; refine (HA.out _ hl2 (by omega)).mono ?_; rintro e w1 ⟨rfl, hb1⟩)
    | (go_at_call 47; refine (HB.out _ (hl2.new hb1) (by omega) hris.out).mono ?_; rintro e w2 ⟨rfl, hb⟩; have hb2 := New.call hb1 hb; clear hb))
  have i1 : (p : Int) ≤ (l.length : Int) := by omega
  have i2 : (p : Int) ≤ (c : Int) := by omega
  have i3 : (l.length : Int) ≤ (c : Int) := by omega
  by_cases hcp : c = p
  · subst hcp
    have hB : KI.Rd w2 A (l.length - c) (l.drop c) := by have := (hl2.new hb2).cut hple hc; rwa [if_pos rfl] at this
    have hC := fun w' h0 h1 h2 h3 h4 => cut3_any (res := insI l x) (c := c) (e := 0) (g := w2.heap.size) (h := w2.heap.size + 1) (x := x) (hl2.new hb2) hple hB (by omega) (by omega) (by rw [hins.out]) w' h0 h1 h2 h3 h4
    go_region_held3 (fun w' => New W w') (first | exact New.drew' hb2 | exact New.call (by assumption) hb | exact New.alloc' (by assumption) _)
      (first | (go_at_call 48; refine (hC _ (New.drew' (((New.rfl' w2).alloc' _).alloc' _)) (by go_simp) (by go_simp) (by go_simp) (by go_simp)).mono ?_; rintro e w4 ⟨A4, c4, rfl, hv4, hb⟩))
    go_wp2
    go_ret2
    exact ⟨_, rfl, hv4.lower (by have := hb2.size; have := hnW.size; simp only [World.size_alloc, World.size_drew]; omega), hnW.call (by assumption)⟩
  · have hB : KI.Rd w2 (Option.map (fun x => x.add (p * 11)) A) (l.length - p) (l.drop p) := by have := (hl2.new hb2).cut hple hc; rwa [if_neg hcp] at this
    have hC := fun w' h0 h1 h2 h3 h4 => cut3_any (res := insI l x) (c := c) (e := c - p) (g := w2.heap.size) (h := w2.heap.size + 1) (x := x) (hl2.new hb2) hple hB (by omega) (by omega) (by rw [hins.out]) w' h0 h1 h2 h3 h4
    go_region_held3 (fun w' => New W w') (first | exact New.drew' hb2 | exact New.call (by assumption) hb | exact New.alloc' (by assumption) _)
      (first | (go_at_call 48; refine (hC _ (New.drew' (((New.rfl' w2).alloc' _).alloc' _)) (by go_simp) (by go_simp) (by go_simp) (by go_simp)).mono ?_; rintro e w4 ⟨A4, c4, rfl, hv4, hb⟩))
    go_wp2
    go_ret2
    exact ⟨_, rfl, hv4.lower (by have := hb2.size; have := hnW.size; simp only [World.size_alloc, World.size_drew]; omega), hnW.call (by assumption)⟩
end Go.Proofs.Ytkgebhmlogddcaa
/- Contracts of the layer item: Add, Change and Drop, whole. -/
namespace Go.Proofs.Ytkgebhmlogddcaa
open Go.RowKit
set_option linter.unusedSimpArgs false
attribute [local go_sem] rowAt_alloc_at rowAt_alloc_past rowOk_alloc_at rowOk_alloc_past rowAt_drew rowOk_drew setRow_alloc_at setRow_alloc_past rowAt_setRow rowAt_setRow_far rowOk_setRow cell_rowOk frozen_rowOk setCell_rowOk setRow_setRow con_fold con_get con_size con_set set_all none8_cells equalIn_con storeCells_con
attribute [local go_sem] it_size it_0 it_1 it_2 it_3 it_4 it_5 it_6 it_7 it_8 it_9 it_10 it_set0 it_set1 it_set2 it_fold it_zero it_eta it_fill run_storeCells_it

def chgI (l : List It) (x : It) : List It := l.take (posI l x.1) ++ [x] ++ l.drop (posI l x.1 + 1)
theorem chgI_eq (l : List It) (x : It) : chgI l x = l.take (posI l x.1) ++ [x] ++ l.drop (posI l x.1 + 1) := rfl
def drpI (l : List It) (id : Int) : List It := l.take (posI l id) ++ l.drop (posI l id + 1)
theorem drpI_eq (l : List It) (id : Int) : drpI l id = l.take (posI l id) ++ l.drop (posI l id + 1) := rfl
def changeI (l : List It) (x : It) : List It × Int :=
  if !mayI l || x.2.1 == 0 then ([], 2) else if !hasI l x.1 then ([], 7) else (chgI l x, 0)
def dropI (l : List It) (id : Int) : List It × Int :=
  if !mayI l then ([], 2) else if !hasI l id then ([], 7) else (drpI l id, 0)

set_option maxHeartbeats 800000 in
theorem iAdd_bad1 (A : Option Addr) (n c : Nat) (l : List It) (x : It) (w : World) (hl : KI.Rd w A n l) (hn : n ≤ 140737488355328) (hm : mayI l = false) :
    Calls Try.prog 12 #[.slice A n c, .agg (itA x)] w fun e w' => e = .returned (.tuple #[.slice none 0 0, .int .i64 2]) ∧ New w w' := by
  obtain rfl : l.length = n := hl.1
  have hA1 := imay_any A l.length c l
  rw [hm] at hA1
  have HA := Lib.hid hA1
  clear hA1 hm
  go_enter Try.func12, Try.ntmps12
  go_wp2_with fail
  have hnW : New w (w.alloc (Obj.cells (itA x) 28)) := (New.rfl' w).alloc' _
  generalize hW : (w.alloc (Obj.cells (itA x) 28)) = W at *
  have hWz0 : w.heap.size < W.heap.size := by rw [← hW]; simp only [World.size_alloc]; omega
  have hWa0 : rowAt W (w.heap.size) = itA x := by rw [← hW]; simp [go_sem]
  have hWo0 : rowOk W (w.heap.size) = true := by rw [← hW]; simp [go_sem]
  clear hW
  have hWA := fun w' (h : New W w') n hn => rowAt_below h n hn
  have hWO := fun w' (h : New W w') n hn => rowOk_below h n hn
  have hWS := fun w' (h : New W w') n (hn : n < W.heap.size) => eq_true (Nat.lt_of_lt_of_le hn h.size)
  have hl2 := hl.new hnW
  go_wp2_with (first
    | (go_at_call 21; refine (HA.out _ hl2 hn).mono ?_; rintro e w1 ⟨rfl, hb1⟩))
  go_ret2
  exact ⟨rfl, hnW.call hb1⟩
set_option maxHeartbeats 800000 in
theorem iAdd_bad2 (A : Option Addr) (n c : Nat) (l : List It) (x : It) (w : World) (hl : KI.Rd w A n l) (hn : n ≤ 140737488355328) (hm : mayI l = true) (h1 : (x.1 == 0) = true) :
    Calls Try.prog 12 #[.slice A n c, .agg (itA x)] w fun e w' => e = .returned (.tuple #[.slice none 0 0, .int .i64 2]) ∧ New w w' := by
  obtain rfl : l.length = n := hl.1
  have hA1 := imay_any A l.length c l
  rw [hm] at hA1
  have HA := Lib.hid hA1
  clear hA1 hm
  go_enter Try.func12, Try.ntmps12
  go_wp2_with fail
  have hnW : New w (w.alloc (Obj.cells (itA x) 28)) := (New.rfl' w).alloc' _
  generalize hW : (w.alloc (Obj.cells (itA x) 28)) = W at *
  have hWz0 : w.heap.size < W.heap.size := by rw [← hW]; simp only [World.size_alloc]; omega
  have hWa0 : rowAt W (w.heap.size) = itA x := by rw [← hW]; simp [go_sem]
  have hWo0 : rowOk W (w.heap.size) = true := by rw [← hW]; simp [go_sem]
  clear hW
  have hWA := fun w' (h : New W w') n hn => rowAt_below h n hn
  have hWO := fun w' (h : New W w') n hn => rowOk_below h n hn
  have hWS := fun w' (h : New W w') n (hn : n < W.heap.size) => eq_true (Nat.lt_of_lt_of_le hn h.size)
  have hl2 := hl.new hnW
  go_wp2_with (first
    | (go_at_call 21; refine (HA.out _ hl2 hn).mono ?_; rintro e w1 ⟨rfl, hb1⟩))
  go_ret2
  exact ⟨rfl, hnW.call hb1⟩
set_option maxHeartbeats 800000 in
theorem iAdd_bad3 (A : Option Addr) (n c : Nat) (l : List It) (x : It) (w : World) (hl : KI.Rd w A n l) (hn : n ≤ 140737488355328) (hm : mayI l = true) (h1 : (x.1 == 0) = false) (h2 : (x.2.1 == 0) = true) :
    Calls Try.prog 12 #[.slice A n c, .agg (itA x)] w fun e w' => e = .returned (.tuple #[.slice none 0 0, .int .i64 2]) ∧ New w w' := by
  obtain rfl : l.length = n := hl.1
  have hA1 := imay_any A l.length c l
  rw [hm] at hA1
  have HA := Lib.hid hA1
  clear hA1 hm
  go_enter Try.func12, Try.ntmps12
  go_wp2_with fail
  have hnW : New w (w.alloc (Obj.cells (itA x) 28)) := (New.rfl' w).alloc' _
  generalize hW : (w.alloc (Obj.cells (itA x) 28)) = W at *
  have hWz0 : w.heap.size < W.heap.size := by rw [← hW]; simp only [World.size_alloc]; omega
  have hWa0 : rowAt W (w.heap.size) = itA x := by rw [← hW]; simp [go_sem]
  have hWo0 : rowOk W (w.heap.size) = true := by rw [← hW]; simp [go_sem]
  clear hW
  have hWA := fun w' (h : New W w') n hn => rowAt_below h n hn
  have hWO := fun w' (h : New W w') n hn => rowOk_below h n hn
  have hWS := fun w' (h : New W w') n (hn : n < W.heap.size) => eq_true (Nat.lt_of_lt_of_le hn h.size)
  have hl2 := hl.new hnW
  go_wp2_with (first
    | (go_at_call 21; refine (HA.out _ hl2 hn).mono ?_; rintro e w1 ⟨rfl, hb1⟩))
  go_ret2
  exact ⟨rfl, hnW.call hb1⟩
set_option maxHeartbeats 800000 in
theorem iAdd_twice (A : Option Addr) (n c : Nat) (l : List It) (x : It) (w : World) (hl : KI.Rd w A n l) (hn : n ≤ 140737488355328) (hm : mayI l = true) (h1 : (x.1 == 0) = false) (h2 : (x.2.1 == 0) = false) (h3 : hasI l x.1 = true) :
    Calls Try.prog 12 #[.slice A n c, .agg (itA x)] w fun e w' => e = .returned (.tuple #[.slice none 0 0, .int .i64 8]) ∧ New w w' := by
  obtain rfl : l.length = n := hl.1
  have hA1 := imay_any A l.length c l
  rw [hm] at hA1
  have HA := Lib.hid hA1
  have hris := Lib.hid (risI_of l hm)
  have hB1 := ifind_any A l.length c l x.1
  rw [h3] at hB1
  have HB := Lib.hid hB1
  clear hB1 h3
  clear hA1 hm
  go_enter Try.func12, Try.ntmps12
  go_wp2_with fail
  have hnW : New w (w.alloc (Obj.cells (itA x) 28)) := (New.rfl' w).alloc' _
  generalize hW : (w.alloc (Obj.cells (itA x) 28)) = W at *
  have hWz0 : w.heap.size < W.heap.size := by rw [← hW]; simp only [World.size_alloc]; omega
  have hWa0 : rowAt W (w.heap.size) = itA x := by rw [← hW]; simp [go_sem]
  have hWo0 : rowOk W (w.heap.size) = true := by rw [← hW]; simp [go_sem]
  clear hW
  have hWA := fun w' (h : New W w') n hn => rowAt_below h n hn
  have hWO := fun w' (h : New W w') n hn => rowOk_below h n hn
  have hWS := fun w' (h : New W w') n (hn : n < W.heap.size) => eq_true (Nat.lt_of_lt_of_le hn h.size)
  have hl2 := hl.new hnW
  go_wp2_with (first
    | (go_at_call 21; refine (HA.out _ hl2 hn).mono ?_; rintro e w1 ⟨rfl, hb1⟩)
    | (go_at_call 47; refine (HB.out _ (hl2.new hb1) hn hris.out).mono ?_; rintro e w2 ⟨rfl, hb⟩; have hb2 := New.call hb1 hb; clear hb))
  go_ret2
  exact ⟨rfl, hnW.call hb2⟩
set_option maxHeartbeats 800000 in
theorem iAdd_limit (A : Option Addr) (n c : Nat) (l : List It) (x : It) (w : World) (hl : KI.Rd w A n l) (hn : n ≤ 140737488355328) (hm : mayI l = true) (h1 : (x.1 == 0) = false) (h2 : (x.2.1 == 0) = false) (h3 : hasI l x.1 = false) (h40 : ((l.length : Int) == 40) = true) :
    Calls Try.prog 12 #[.slice A n c, .agg (itA x)] w fun e w' => e = .returned (.tuple #[.slice none 0 0, .int .i64 3]) ∧ New w w' := by
  obtain rfl : l.length = n := hl.1
  have hA1 := imay_any A l.length c l
  rw [hm] at hA1
  have HA := Lib.hid hA1
  have hris := Lib.hid (risI_of l hm)
  have hB1 := ifind_any A l.length c l x.1
  rw [h3] at hB1
  have HB := Lib.hid hB1
  clear hB1 h3
  clear hA1 hm
  go_enter Try.func12, Try.ntmps12
  go_wp2_with fail
  have hnW : New w (w.alloc (Obj.cells (itA x) 28)) := (New.rfl' w).alloc' _
  generalize hW : (w.alloc (Obj.cells (itA x) 28)) = W at *
  have hWz0 : w.heap.size < W.heap.size := by rw [← hW]; simp only [World.size_alloc]; omega
  have hWa0 : rowAt W (w.heap.size) = itA x := by rw [← hW]; simp [go_sem]
  have hWo0 : rowOk W (w.heap.size) = true := by rw [← hW]; simp [go_sem]
  clear hW
  have hWA := fun w' (h : New W w') n hn => rowAt_below h n hn
  have hWO := fun w' (h : New W w') n hn => rowOk_below h n hn
  have hWS := fun w' (h : New W w') n (hn : n < W.heap.size) => eq_true (Nat.lt_of_lt_of_le hn h.size)
  have hl2 := hl.new hnW
  go_wp2_with (first
    | (go_at_call 21; refine (HA.out _ hl2 hn).mono ?_; rintro e w1 ⟨rfl, hb1⟩)
    | (go_at_call 47; refine (HB.out _ (hl2.new hb1) hn hris.out).mono ?_; rintro e w2 ⟨rfl, hb⟩; have hb2 := New.call hb1 hb; clear hb))
  go_ret2
  exact ⟨rfl, hnW.call hb2⟩
set_option maxHeartbeats 800000 in
theorem iChange_ok (A : Option Addr) (n c : Nat) (l : List It) (x : It) (w : World) (hl : KI.Rd w A n l) (hc : n ≤ c) (hm : mayI l = true) (h2 : (x.2.1 == 0) = false) (h3 : hasI l x.1 = true) :
    Calls Try.prog 14 #[.slice A n c, .agg (itA x)] w fun e w' => ∃ v, e = .returned (.tuple #[v, .int .i64 0]) ∧ KI.Own w' w.heap.size v (chgI l x) ∧ New w w' := by
  obtain rfl : l.length = n := hl.1
  have h40 := mayI_len l hm
  obtain ⟨hlt, _, _⟩ := pos_has l x.1 (risI_of l hm) h3
  have hA1 := imay_any A l.length c l
  rw [hm] at hA1
  have HA := Lib.hid hA1
  have hris := Lib.hid (risI_of l hm)
  have hB1 := ifind_any A l.length c l x.1
  rw [h3] at hB1
  have HB := Lib.hid hB1
  have hins := Lib.hid (chgI_eq l x)
  clear hA1 hB1 hm h3
  generalize hpp : posI l x.1 = p at *
  have Hpp := Lib.hid hpp
  clear hpp
  go_enter Try.func14, Try.ntmps14
  go_wp2_with fail
  have hnW : New w (w.alloc (Obj.cells (itA x) 28)) := (New.rfl' w).alloc' _
  generalize hW : (w.alloc (Obj.cells (itA x) 28)) = W at *
  have hWz0 : w.heap.size < W.heap.size := by rw [← hW]; simp only [World.size_alloc]; omega
  have hWa0 : rowAt W (w.heap.size) = itA x := by rw [← hW]; simp [go_sem]
  have hWo0 : rowOk W (w.heap.size) = true := by rw [← hW]; simp [go_sem]
  clear hW
  have hWA := fun w' (h : New W w') n hn => rowAt_below h n hn
  have hWO := fun w' (h : New W w') n hn => rowOk_below h n hn
  have hWS := fun w' (h : New W w') n (hn : n < W.heap.size) => eq_true (Nat.lt_of_lt_of_le hn h.size)
  have hl2 := hl.new hnW
  go_wp2_with (first
    | (go_at_call 21; refine (HA.out _ hl2 (by omega)).mono ?_; rintro e w1 ⟨rfl, hb1⟩)
    | (go_at_call 47; refine (HB.out _ (hl2.new hb1) (by omega) hris.out).mono ?_; rintro e w2 ⟨rfl, hb⟩; have hb2 := New.call hb1 hb; clear hb))
  have i1 : (p : Int) ≤ (l.length : Int) := by omega
  have i2 : (p : Int) ≤ (c : Int) := by omega
  have i3 : (l.length : Int) ≤ (c : Int) := by omega
  have i4 : (p : Int) + 1 ≤ (l.length : Int) := by omega
  have i5 : (p : Int) + 1 ≤ (c : Int) := by omega
  have iw : IntKind.i64.wrap ((p : Int) + 1) = (p : Int) + 1 := by rw [IntKind.wrap_i64]; omega
  have i0 : (0 : Int) ≤ (p : Int) + 1 := by omega
  by_cases hcp : c = p + 1
  · subst hcp
    have i6 : (l.length : Int) ≤ (p : Int) + 1 := by omega
    have i7 : (p : Int) ≤ (p : Int) + 1 := by omega
    have i8 : (0 : Int) ≤ (p : Int) + 1 := by omega
    clear i2 i3 i5
    have hB : KI.Rd w2 A (l.length - (p + 1)) (l.drop (p + 1)) := by have := (hl2.new hb2).cut (k := p + 1) (by omega) hc; rwa [if_pos rfl] at this
    have hC := fun w' h0 h1 h2 h3 h4 => cut3_any (p := p) (res := chgI l x) (c := p + 1) (e := 0) (g := w2.heap.size) (h := w2.heap.size + 1) (x := x) (hl2.new hb2) (by omega) hB (by omega) (by omega) (by rw [hins.out]) w' h0 h1 h2 h3 h4
    go_region_held3 (fun w' => New W w') (first | exact New.drew' hb2 | exact New.call (by assumption) hb | exact New.alloc' (by assumption) _)
      (first | (go_at_call 48; refine (hC _ (New.drew' (((New.rfl' w2).alloc' _).alloc' _)) (by go_simp) (by go_simp) (by go_simp) (by go_simp)).mono ?_; rintro e w4 ⟨A4, c4, rfl, hv4, hb⟩))
    go_wp2
    go_ret2
    exact ⟨_, rfl, hv4.lower (by have := hb2.size; have := hnW.size; simp only [World.size_alloc, World.size_drew]; omega), (hnW.call (by assumption))⟩
  · have hB : KI.Rd w2 (Option.map (fun x => x.add ((p + 1) * 11)) A) (l.length - (p + 1)) (l.drop (p + 1)) := by have := (hl2.new hb2).cut (k := p + 1) (by omega) hc; rwa [if_neg hcp] at this
    have hC := fun w' h0 h1 h2 h3 h4 => cut3_any (p := p) (res := chgI l x) (c := c) (e := c - (p + 1)) (g := w2.heap.size) (h := w2.heap.size + 1) (x := x) (hl2.new hb2) (by omega) hB (by omega) (by omega) (by rw [hins.out]) w' h0 h1 h2 h3 h4
    go_region_held3 (fun w' => New W w') (first | exact New.drew' hb2 | exact New.call (by assumption) hb | exact New.alloc' (by assumption) _)
      (first | (go_at_call 48; refine (hC _ (New.drew' (((New.rfl' w2).alloc' _).alloc' _)) (by go_simp) (by go_simp) (by go_simp) (by go_simp)).mono ?_; rintro e w4 ⟨A4, c4, rfl, hv4, hb⟩))
    go_wp2
    go_ret2
    exact ⟨_, rfl, hv4.lower (by have := hb2.size; have := hnW.size; simp only [World.size_alloc, World.size_drew]; omega), (hnW.call (by assumption))⟩
set_option maxHeartbeats 800000 in
theorem iChange_bad1 (A : Option Addr) (n c : Nat) (l : List It) (x : It) (w : World) (hl : KI.Rd w A n l) (hn : n ≤ 140737488355328) (hm : mayI l = false) :
    Calls Try.prog 14 #[.slice A n c, .agg (itA x)] w fun e w' => e = .returned (.tuple #[.slice none 0 0, .int .i64 2]) ∧ New w w' := by
  obtain rfl : l.length = n := hl.1
  have hA1 := imay_any A l.length c l
  rw [hm] at hA1
  have HA := Lib.hid hA1
  clear hA1 hm
  go_enter Try.func14, Try.ntmps14
  go_wp2_with fail
  have hnW : New w (w.alloc (Obj.cells (itA x) 28)) := (New.rfl' w).alloc' _
  generalize hW : (w.alloc (Obj.cells (itA x) 28)) = W at *
  have hWz0 : w.heap.size < W.heap.size := by rw [← hW]; simp only [World.size_alloc]; omega
  have hWa0 : rowAt W (w.heap.size) = itA x := by rw [← hW]; simp [go_sem]
  have hWo0 : rowOk W (w.heap.size) = true := by rw [← hW]; simp [go_sem]
  clear hW
  have hWA := fun w' (h : New W w') n hn => rowAt_below h n hn
  have hWO := fun w' (h : New W w') n hn => rowOk_below h n hn
  have hWS := fun w' (h : New W w') n (hn : n < W.heap.size) => eq_true (Nat.lt_of_lt_of_le hn h.size)
  have hl2 := hl.new hnW
  go_wp2_with (first
    | (go_at_call 21; refine (HA.out _ hl2 hn).mono ?_; rintro e w1 ⟨rfl, hb1⟩))
  go_ret2
  exact ⟨rfl, hnW.call hb1⟩
set_option maxHeartbeats 800000 in
theorem iChange_bad2 (A : Option Addr) (n c : Nat) (l : List It) (x : It) (w : World) (hl : KI.Rd w A n l) (hn : n ≤ 140737488355328) (hm : mayI l = true) (h2 : (x.2.1 == 0) = true) :
    Calls Try.prog 14 #[.slice A n c, .agg (itA x)] w fun e w' => e = .returned (.tuple #[.slice none 0 0, .int .i64 2]) ∧ New w w' := by
  obtain rfl : l.length = n := hl.1
  have hA1 := imay_any A l.length c l
  rw [hm] at hA1
  have HA := Lib.hid hA1
  clear hA1 hm
  go_enter Try.func14, Try.ntmps14
  go_wp2_with fail
  have hnW : New w (w.alloc (Obj.cells (itA x) 28)) := (New.rfl' w).alloc' _
  generalize hW : (w.alloc (Obj.cells (itA x) 28)) = W at *
  have hWz0 : w.heap.size < W.heap.size := by rw [← hW]; simp only [World.size_alloc]; omega
  have hWa0 : rowAt W (w.heap.size) = itA x := by rw [← hW]; simp [go_sem]
  have hWo0 : rowOk W (w.heap.size) = true := by rw [← hW]; simp [go_sem]
  clear hW
  have hWA := fun w' (h : New W w') n hn => rowAt_below h n hn
  have hWO := fun w' (h : New W w') n hn => rowOk_below h n hn
  have hWS := fun w' (h : New W w') n (hn : n < W.heap.size) => eq_true (Nat.lt_of_lt_of_le hn h.size)
  have hl2 := hl.new hnW
  go_wp2_with (first
    | (go_at_call 21; refine (HA.out _ hl2 hn).mono ?_; rintro e w1 ⟨rfl, hb1⟩))
  go_ret2
  exact ⟨rfl, hnW.call hb1⟩
set_option maxHeartbeats 800000 in
theorem iChange_none (A : Option Addr) (n c : Nat) (l : List It) (x : It) (w : World) (hl : KI.Rd w A n l) (hn : n ≤ 140737488355328) (hm : mayI l = true) (h2 : (x.2.1 == 0) = false) (h3 : hasI l x.1 = false) :
    Calls Try.prog 14 #[.slice A n c, .agg (itA x)] w fun e w' => e = .returned (.tuple #[.slice none 0 0, .int .i64 7]) ∧ New w w' := by
  obtain rfl : l.length = n := hl.1
  have hA1 := imay_any A l.length c l
  rw [hm] at hA1
  have HA := Lib.hid hA1
  have hris := Lib.hid (risI_of l hm)
  have hB1 := ifind_any A l.length c l x.1
  rw [h3] at hB1
  have HB := Lib.hid hB1
  clear hB1 h3
  clear hA1 hm
  go_enter Try.func14, Try.ntmps14
  go_wp2_with fail
  have hnW : New w (w.alloc (Obj.cells (itA x) 28)) := (New.rfl' w).alloc' _
  generalize hW : (w.alloc (Obj.cells (itA x) 28)) = W at *
  have hWz0 : w.heap.size < W.heap.size := by rw [← hW]; simp only [World.size_alloc]; omega
  have hWa0 : rowAt W (w.heap.size) = itA x := by rw [← hW]; simp [go_sem]
  have hWo0 : rowOk W (w.heap.size) = true := by rw [← hW]; simp [go_sem]
  clear hW
  have hWA := fun w' (h : New W w') n hn => rowAt_below h n hn
  have hWO := fun w' (h : New W w') n hn => rowOk_below h n hn
  have hWS := fun w' (h : New W w') n (hn : n < W.heap.size) => eq_true (Nat.lt_of_lt_of_le hn h.size)
  have hl2 := hl.new hnW
  go_wp2_with (first
    | (go_at_call 21; refine (HA.out _ hl2 hn).mono ?_; rintro e w1 ⟨rfl, hb1⟩)
    | (go_at_call 47; refine (HB.out _ (hl2.new hb1) hn hris.out).mono ?_; rintro e w2 ⟨rfl, hb⟩; have hb2 := New.call hb1 hb; clear hb))
  go_ret2
  exact ⟨rfl, hnW.call hb2⟩
set_option maxHeartbeats 800000 in
theorem iDrop_ok (A : Option Addr) (n c : Nat) (l : List It) (id : Int) (w : World) (hl : KI.Rd w A n l) (hc : n ≤ c) (hm : mayI l = true) (h3 : hasI l id = true) :
    Calls Try.prog 16 #[.slice A n c, .int .u32 id] w fun e w' => ∃ v, e = .returned (.tuple #[v, .int .i64 0]) ∧ KI.Own w' w.heap.size v (drpI l id) ∧ New w w' := by
  obtain rfl : l.length = n := hl.1
  have h40 := mayI_len l hm
  obtain ⟨hlt, _, _⟩ := pos_has l id (risI_of l hm) h3
  have hA1 := imay_any A l.length c l
  rw [hm] at hA1
  have HA := Lib.hid hA1
  have hris := Lib.hid (risI_of l hm)
  have hB1 := ifind_any A l.length c l id
  rw [h3] at hB1
  have HB := Lib.hid hB1
  have hins := Lib.hid (drpI_eq l id)
  clear hA1 hB1 hm h3
  generalize hpp : posI l id = p at *
  have Hpp := Lib.hid hpp
  clear hpp
  go_enter Try.func16, Try.ntmps16
  have hwA := fun w' (h : New w w') n hn => rowAt_below h n hn
  have hwO := fun w' (h : New w w') n hn => rowOk_below h n hn
  have hwS := fun w' (h : New w w') n (hn : n < w.heap.size) => eq_true (Nat.lt_of_lt_of_le hn h.size)
  have hl2 := hl
  go_wp2_with (first
    | (go_at_call 21; refine (HA.out _ hl2 (by omega)).mono ?_; rintro e w1 ⟨rfl, hb1⟩)
    | (go_at_call 47; refine (HB.out _ (hl2.new hb1) (by omega) hris.out).mono ?_; rintro e w2 ⟨rfl, hb⟩; have hb2 := New.call hb1 hb; clear hb))
  have i1 : (p : Int) ≤ (l.length : Int) := by omega
  have i2 : (p : Int) ≤ (c : Int) := by omega
  have i3 : (l.length : Int) ≤ (c : Int) := by omega
  have i4 : (p : Int) + 1 ≤ (l.length : Int) := by omega
  have i5 : (p : Int) + 1 ≤ (c : Int) := by omega
  have iw : IntKind.i64.wrap ((p : Int) + 1) = (p : Int) + 1 := by rw [IntKind.wrap_i64]; omega
  have i0 : (0 : Int) ≤ (p : Int) + 1 := by omega
  by_cases hcp : c = p + 1
  · subst hcp
    have i6 : (l.length : Int) ≤ (p : Int) + 1 := by omega
    have i7 : (p : Int) ≤ (p : Int) + 1 := by omega
    have i8 : (0 : Int) ≤ (p : Int) + 1 := by omega
    clear i2 i3 i5
    have hB : KI.Rd w2 A (l.length - (p + 1)) (l.drop (p + 1)) := by have := (hl2.new hb2).cut (k := p + 1) (by omega) hc; rwa [if_pos rfl] at this
    have hC := fun w' h0 h1 h2 => cut2_any (p := p) (res := drpI l id) (c := p + 1) (e := 0) (h := w2.heap.size) (hl2.new hb2) (by omega) hB (by omega) (by omega) (by rw [hins.out]) w' h0 h1 h2
    go_region_held3 (fun w' => New w w') (first | exact New.drew' hb2 | exact New.call (by assumption) hb | exact New.alloc' (by assumption) _)
      (first | (go_at_call 48; refine (hC _ (New.drew' ((New.rfl' w2).alloc' _)) (by go_simp) (by go_simp)).mono ?_; rintro e w4 ⟨A4, c4, rfl, hv4, hb⟩))
    go_wp2
    go_ret2
    exact ⟨_, rfl, hv4.lower (by have := hb2.size; simp only [World.size_alloc, World.size_drew]; omega), (by assumption)⟩
  · have hB : KI.Rd w2 (Option.map (fun x => x.add ((p + 1) * 11)) A) (l.length - (p + 1)) (l.drop (p + 1)) := by have := (hl2.new hb2).cut (k := p + 1) (by omega) hc; rwa [if_neg hcp] at this
    have hC := fun w' h0 h1 h2 => cut2_any (p := p) (res := drpI l id) (c := c) (e := c - (p + 1)) (h := w2.heap.size) (hl2.new hb2) (by omega) hB (by omega) (by omega) (by rw [hins.out]) w' h0 h1 h2
    go_region_held3 (fun w' => New w w') (first | exact New.drew' hb2 | exact New.call (by assumption) hb | exact New.alloc' (by assumption) _)
      (first | (go_at_call 48; refine (hC _ (New.drew' ((New.rfl' w2).alloc' _)) (by go_simp) (by go_simp)).mono ?_; rintro e w4 ⟨A4, c4, rfl, hv4, hb⟩))
    go_wp2
    go_ret2
    exact ⟨_, rfl, hv4.lower (by have := hb2.size; simp only [World.size_alloc, World.size_drew]; omega), (by assumption)⟩
set_option maxHeartbeats 800000 in
theorem iDrop_bad (A : Option Addr) (n c : Nat) (l : List It) (id : Int) (w : World) (hl : KI.Rd w A n l) (hn : n ≤ 140737488355328) (hm : mayI l = false) :
    Calls Try.prog 16 #[.slice A n c, .int .u32 id] w fun e w' => e = .returned (.tuple #[.slice none 0 0, .int .i64 2]) ∧ New w w' := by
  obtain rfl : l.length = n := hl.1
  have hA1 := imay_any A l.length c l
  rw [hm] at hA1
  have HA := Lib.hid hA1
  clear hA1 hm
  go_enter Try.func16, Try.ntmps16
  have hwA := fun w' (h : New w w') n hn => rowAt_below h n hn
  have hwO := fun w' (h : New w w') n hn => rowOk_below h n hn
  have hwS := fun w' (h : New w w') n (hn : n < w.heap.size) => eq_true (Nat.lt_of_lt_of_le hn h.size)
  have hl2 := hl
  go_wp2_with (first
    | (go_at_call 21; refine (HA.out _ hl2 hn).mono ?_; rintro e w1 ⟨rfl, hb1⟩))
  go_ret2
  exact ⟨rfl, hb1⟩
set_option maxHeartbeats 800000 in
theorem iDrop_none (A : Option Addr) (n c : Nat) (l : List It) (id : Int) (w : World) (hl : KI.Rd w A n l) (hn : n ≤ 140737488355328) (hm : mayI l = true) (h3 : hasI l id = false) :
    Calls Try.prog 16 #[.slice A n c, .int .u32 id] w fun e w' => e = .returned (.tuple #[.slice none 0 0, .int .i64 7]) ∧ New w w' := by
  obtain rfl : l.length = n := hl.1
  have hA1 := imay_any A l.length c l
  rw [hm] at hA1
  have HA := Lib.hid hA1
  have hris := Lib.hid (risI_of l hm)
  have hB1 := ifind_any A l.length c l id
  rw [h3] at hB1
  have HB := Lib.hid hB1
  clear hB1 h3
  clear hA1 hm
  go_enter Try.func16, Try.ntmps16
  have hwA := fun w' (h : New w w') n hn => rowAt_below h n hn
  have hwO := fun w' (h : New w w') n hn => rowOk_below h n hn
  have hwS := fun w' (h : New w w') n (hn : n < w.heap.size) => eq_true (Nat.lt_of_lt_of_le hn h.size)
  have hl2 := hl
  go_wp2_with (first
    | (go_at_call 21; refine (HA.out _ hl2 hn).mono ?_; rintro e w1 ⟨rfl, hb1⟩)
    | (go_at_call 47; refine (HB.out _ (hl2.new hb1) hn hris.out).mono ?_; rintro e w2 ⟨rfl, hb⟩; have hb2 := New.call hb1 hb; clear hb))
  go_ret2
  exact ⟨rfl, hb2⟩

/-! ### whole -/
theorem iAdd_any (A : Option Addr) (n c : Nat) (l : List It) (x : It) (w : World) (hl : KI.Rd w A n l) (hc : n ≤ c) (hn : n ≤ 140737488355328) :
    Calls Try.prog 12 #[.slice A n c, .agg (itA x)] w fun e w' => ∃ v, e = .returned (.tuple #[v, .int .i64 (addI l x).2]) ∧ KI.Own w' w.heap.size v (addI l x).1 ∧ New w w' := by
  unfold addI
  cases hm : mayI l
  · refine (iAdd_bad1 A n c l x w hl hn hm).mono ?_; rintro e w' ⟨rfl, hb⟩; exact ⟨_, rfl, Kind.Own.nil, hb⟩
  cases h1 : (x.1 == 0)
  case true => refine (iAdd_bad2 A n c l x w hl hn hm h1).mono ?_; rintro e w' ⟨rfl, hb⟩; exact ⟨_, rfl, Kind.Own.nil, hb⟩
  cases h2 : (x.2.1 == 0)
  case true => refine (iAdd_bad3 A n c l x w hl hn hm h1 h2).mono ?_; rintro e w' ⟨rfl, hb⟩; exact ⟨_, rfl, Kind.Own.nil, hb⟩
  cases h3 : hasI l x.1
  case true => refine (iAdd_twice A n c l x w hl hn hm h1 h2 h3).mono ?_; rintro e w' ⟨rfl, hb⟩; exact ⟨_, rfl, Kind.Own.nil, hb⟩
  by_cases h40 : l.length = 40
  · refine (iAdd_limit A n c l x w hl hn hm h1 h2 h3 (by simp [h40])).mono ?_; rintro e w' ⟨rfl, hb⟩; simp only [h40]; exact ⟨_, rfl, Kind.Own.nil, hb⟩
  · refine (iAdd_ok A n c l x w hl hc hm h1 h2 h3 (by have := mayI_len l hm; omega)).mono ?_; rintro e w' ⟨v, rfl, hv, hb⟩; simp only [h40]; exact ⟨_, rfl, hv, hb⟩
theorem iChange_any (A : Option Addr) (n c : Nat) (l : List It) (x : It) (w : World) (hl : KI.Rd w A n l) (hc : n ≤ c) (hn : n ≤ 140737488355328) :
    Calls Try.prog 14 #[.slice A n c, .agg (itA x)] w fun e w' => ∃ v, e = .returned (.tuple #[v, .int .i64 (changeI l x).2]) ∧ KI.Own w' w.heap.size v (changeI l x).1 ∧ New w w' := by
  unfold changeI
  cases hm : mayI l
  · refine (iChange_bad1 A n c l x w hl hn hm).mono ?_; rintro e w' ⟨rfl, hb⟩; exact ⟨_, rfl, Kind.Own.nil, hb⟩
  cases h2 : (x.2.1 == 0)
  case true => refine (iChange_bad2 A n c l x w hl hn hm h2).mono ?_; rintro e w' ⟨rfl, hb⟩; exact ⟨_, rfl, Kind.Own.nil, hb⟩
  cases h3 : hasI l x.1
  · refine (iChange_none A n c l x w hl hn hm h2 h3).mono ?_; rintro e w' ⟨rfl, hb⟩; exact ⟨_, rfl, Kind.Own.nil, hb⟩
  · refine (iChange_ok A n c l x w hl hc hm h2 h3).mono ?_; rintro e w' ⟨v, rfl, hv, hb⟩; exact ⟨_, rfl, hv, hb⟩
theorem iDrop_any (A : Option Addr) (n c : Nat) (l : List It) (id : Int) (w : World) (hl : KI.Rd w A n l) (hc : n ≤ c) (hn : n ≤ 140737488355328) :
    Calls Try.prog 16 #[.slice A n c, .int .u32 id] w fun e w' => ∃ v, e = .returned (.tuple #[v, .int .i64 (dropI l id).2]) ∧ KI.Own w' w.heap.size v (dropI l id).1 ∧ New w w' := by
  unfold dropI
  cases hm : mayI l
  · refine (iDrop_bad A n c l id w hl hn hm).mono ?_; rintro e w' ⟨rfl, hb⟩; exact ⟨_, rfl, Kind.Own.nil, hb⟩
  cases h3 : hasI l id
  · refine (iDrop_none A n c l id w hl hn hm h3).mono ?_; rintro e w' ⟨rfl, hb⟩; exact ⟨_, rfl, Kind.Own.nil, hb⟩
  · refine (iDrop_ok A n c l id w hl hc hm h3).mono ?_; rintro e w' ⟨v, rfl, hv, hb⟩; exact ⟨_, rfl, hv, hb⟩
end Go.Proofs.Ytkgebhmlogddcaa
/- Contracts of the reference of the layer item. -/
namespace Go.Proofs.Ytkgebhmlogddcaa
open Go.RowKit
set_option linter.unusedSimpArgs false
attribute [local go_sem] rowAt_alloc_at rowAt_alloc_past rowOk_alloc_at rowOk_alloc_past rowAt_drew rowOk_drew setRow_alloc_at setRow_alloc_past rowAt_setRow rowAt_setRow_far rowOk_setRow cell_rowOk frozen_rowOk setCell_rowOk setRow_setRow con_fold con_get con_size con_set set_all none8_cells equalIn_con storeCells_con
attribute [local go_sem] it_size it_0 it_1 it_2 it_3 it_4 it_5 it_6 it_7 it_8 it_9 it_10 it_set0 it_set1 it_set2 it_fold it_zero it_eta it_fill run_storeCells_it
attribute [local go_sem high] equalIn_it

theorem ris_bad (l : List It) (k : Nat) (hk : k < l.length) (h : ¬ (lastI 0 (l.take k) < l[k].1) ∨ l[k].2.1 = 0) : risI 0 l = false := by
  rw [← Bool.not_eq_true]
  intro h2
  have h3 := risI_take 0 l (k + 1) h2
  rw [risI_step 0 l k hk] at h3
  simp only [Bool.and_eq_true, decide_eq_true_eq, bne_iff_ne] at h3
  rcases h with h | h
  · exact h h3.1.2
  · exact h3.2 h
theorem ris_good (l : List It) (k : Nat) (hk : k < l.length) (h0 : risI 0 (l.take k) = true) (h : lastI 0 (l.take k) < l[k].1) (h2 : ¬ l[k].2.1 = 0) : risI 0 (l.take (k + 1)) = true := by
  rw [risI_step 0 l k hk, h0]; simp [h, h2]

def PosI (l : List It) : Prop := ∀ x ∈ l, 0 ≤ x.1
theorem PosI.at {l : List It} (h : PosI l) (k : Nat) (hk : k < l.length) : 0 ≤ l[k].1 := h _ (List.getElem_mem _)

set_option maxHeartbeats 800000 in
theorem refmay_any (A : Option Addr) (n c : Nat) (l : List It) (w : World) (hl : KI.Rd w A n l) (hn : n ≤ 140737488355328) (hP : PosI l) :
    Calls Try.prog 25 #[.slice A n c] w fun e w' => e = .returned (.bool (mayI l)) ∧ New w w' := by
  obtain rfl : l.length = n := hl.1
  by_cases h40 : l.length ≤ 40
  · have hm : mayI l = risI 0 l := by simp [mayI, h40]
    rw [hm]
    have HM := Lib.hid hm
    clear hm
    have h40' : (l.length : Int) ≤ 40 := by omega
    go_enter Try.func25, Try.ntmps25
    go_wp2_with fail
    have hwA := fun w' (h : New w w') n hn => rowAt_below h n hn
    have hwO := fun w' (h : New w w') n hn => rowOk_below h n hn
    have hwS := fun w' (h : New w w') n (hn : n < w.heap.size) => eq_true (Nat.lt_of_lt_of_le hn h.size)
    go_loopw [3] (fun i wr => ∃ k : Nat, k ≤ l.length ∧ i = .int .i64 k ∧ New w wr ∧ Hid (risI 0 (l.take k) = true)) (fun i _ => l.length - (intOf i).toNat)
    case atStart => exact ⟨0, by omega, rfl, New.rfl' w, rfl⟩
    case round =>
      obtain ⟨k, hk, rfl, hr, hq⟩ := hrel
      by_cases hlt : k < l.length
      · have hbad := Lib.hid (ris_bad l k hlt)
        have hgood := Lib.hid (ris_good l k hlt hq.out)
        have hp := hP.at k hlt
        obtain ⟨bhl, ohl, rfl, hbhl, hchl⟩ := hl.2 (by omega)
        have hrhl : ∀ w', New w w' → ∀ k (hk : k < l.length), w'.cell? ⟨bhl, ohl + k * 11, none⟩ = (itA l[k])[0]? := fun w' hw k hk => (hw.cell (p := ⟨bhl, _, none⟩) hbhl).trans (hchl k hk 0 (by decide))
        have hshl : ∀ w', New w w' → ∀ k (hk : k < l.length) j, j < 11 → w'.cell? ⟨bhl, ohl + k * 11 + j, none⟩ = (itA l[k])[j]? := fun w' hw k hk j hj => (hw.cell (p := ⟨bhl, _, none⟩) hbhl).trans (hchl k hk j hj)
        clear hchl
        rcases Bool.eq_false_or_eq_true (l[k].1 == 0) with h1 | h1
        · have h1' := Lib.hid (show l[k].1 = 0 by simpa using h1)
          go_wp2_with fail
          go_quiet (fail)
          go_wp2_with fail
          go_ret
          refine ⟨?_, below_drewN hr _⟩
          have hla : 0 ≤ lastI 0 (l.take k) := by
            cases k with
            | zero => simp [lastI]
            | succ j => rw [lastI_step 0 l j (by omega)]; exact hP.at j (by omega)
          rw [hbad.out (Or.inl (by rw [h1'.out]; omega))]; rfl
        have h1' := Lib.hid (show l[k].1 ≠ 0 by simpa using h1)
        rcases Bool.eq_false_or_eq_true (l[k].2.1 == 0) with h2 | h2
        · have h2' := Lib.hid (show l[k].2.1 = 0 by simpa using h2)
          go_wp2_with fail
          go_quiet (fail)
          go_wp2_with fail
          go_ret
          exact ⟨by rw [hbad.out (Or.inr h2'.out)]; rfl, below_drewN hr _⟩
        have h2' := Lib.hid (show l[k].2.1 ≠ 0 by simpa using h2)
        cases k with
        | zero =>
          have hz0 := fun w' hw => hrhl w' hw 0 hlt
          have hz1 := fun w' hw => hshl w' hw 0 hlt 1 (by decide)
          simp only [Nat.zero_mul, Nat.add_zero] at hz0 hz1
          go_wp2_with fail
          go_quiet (fail)
          go_wp2_with fail
          go_roundw
          case rel => exact ⟨0 + 1, by omega, by go_num, below_drewN hr _, hgood.out (by have := h1'.out; simp [lastI]; omega) h2'.out⟩
          case measure => simp [intOf]; omega
        | succ j =>
          have hla := Lib.hid (lastI_step 0 l j (by omega))
          have iw : IntKind.i64.wrap ((j : Int) + 1 - 1) = (j : Int) := by rw [IntKind.wrap_i64]; omega
          have i2 : (0 : Int) < (j : Int) + 1 := by omega
          have i3 : j < l.length := by omega
          have i4 : (j : Int) < (l.length : Int) := by omega
          by_cases h3 : l[j + 1].1 ≤ l[j].1
          · go_wp2_with fail
            go_quiet (fail)
            go_wp2_with fail
            go_ret
            exact ⟨by rw [hbad.out (Or.inl (by rw [hla.out]; omega))]; rfl, below_drewN hr _⟩
          · go_wp2_with fail
            go_quiet (fail)
            go_wp2_with fail
            go_roundw
            case rel => exact ⟨j + 1 + 1, by omega, by go_num, below_drewN hr _, hgood.out (by rw [hla.out]; omega) h2'.out⟩
            case measure => simp [intOf]; omega
      · go_wp2_with fail
        go_ret
        exact ⟨by have h := hq.out; rw [List.take_of_length_le (by omega)] at h; rw [h]; rfl, hr⟩
  · have hm : mayI l = false := by simp [mayI, h40]
    rw [hm]
    clear hm
    have h40' : (40 : Int) < (l.length : Int) := by omega
    go_enter Try.func25, Try.ntmps25
    go_wp2_with fail
    go_ret
    exact ⟨rfl, New.rfl' w⟩

/-- where an Id stands first, or -1 -/
def atI (l : List It) (id : Int) : Int := if hasI l id then (l.findIdx (fun x => x.1 == id) : Nat) else -1
theorem atI_at (l : List It) (id : Int) (k : Nat) (hk : k < l.length) (h : l[k].1 = id) (hq : ∀ q, (h : q < l.length) → q < k → Hid (l[q].1 ≠ id)) : atI l id = k := by
  rw [atI, if_pos ((hasI_iff l id).2 ⟨k, hk, h⟩), (List.findIdx_eq hk).2 ⟨by simpa using h, fun j hj => by simpa using (hq j (by omega) hj).out⟩]
theorem atI_no (l : List It) (id : Int) (hq : ∀ q, (h : q < l.length) → Hid (l[q].1 ≠ id)) : atI l id = -1 := by
  rw [atI, if_neg]
  rw [hasI_iff]
  rintro ⟨q, h, he⟩
  exact (hq q h).out he
theorem atI_pos (l : List It) (id : Int) (hm : risI 0 l = true) (h : hasI l id = true) : atI l id = (posI l id : Nat) := by
  obtain ⟨hp, hpe, hf⟩ := pos_has l id hm h
  exact atI_at l id _ hp hpe fun p hp2 hlt hpi => by
    have := risI_lt 0 l hm p (posI l id) hp hlt
    omega

set_option maxHeartbeats 800000 in
theorem refplace_any (A : Option Addr) (n c : Nat) (l : List It) (id : Int) (w : World) (hl : KI.Rd w A n l) (hn : n ≤ 140737488355328) :
    Calls Try.prog 49 #[.slice A n c, .int .u32 id] w fun e w' => e = .returned (.int .i64 (atI l id)) ∧ New w w' := by
  obtain rfl : l.length = n := hl.1
  go_enter Try.func49, Try.ntmps49
  go_wp2_with fail
  have hwA := fun w' (h : New w w') n hn => rowAt_below h n hn
  have hwO := fun w' (h : New w w') n hn => rowOk_below h n hn
  have hwS := fun w' (h : New w w') n (hn : n < w.heap.size) => eq_true (Nat.lt_of_lt_of_le hn h.size)
  go_loopw [5] (fun i wr => ∃ k : Nat, k ≤ l.length ∧ i = .int .i64 k ∧ New w wr ∧ ∀ q, (h : q < l.length) → q < k → Hid (l[q].1 ≠ id)) (fun i _ => l.length - (intOf i).toNat)
  case atStart => exact ⟨0, by omega, rfl, New.rfl' w, fun _ _ h => absurd h (by omega)⟩
  case round =>
    obtain ⟨k, hk, rfl, hr, hq⟩ := hrel
    by_cases hlt : k < l.length
    · skip
      obtain ⟨bhl, ohl, rfl, hbhl, hchl⟩ := hl.2 (by omega)
      have hrhl : ∀ w', New w w' → ∀ k (hk : k < l.length), w'.cell? ⟨bhl, ohl + k * 11, none⟩ = (itA l[k])[0]? := fun w' hw k hk => (hw.cell (p := ⟨bhl, _, none⟩) hbhl).trans (hchl k hk 0 (by decide))
      have hshl : ∀ w', New w w' → ∀ k (hk : k < l.length) j, j < 11 → w'.cell? ⟨bhl, ohl + k * 11 + j, none⟩ = (itA l[k])[j]? := fun w' hw k hk j hj => (hw.cell (p := ⟨bhl, _, none⟩) hbhl).trans (hchl k hk j hj)
      clear hchl
      rcases Bool.eq_false_or_eq_true (l[k].1 == id) with h1 | h1
      · have h1' := Lib.hid (show l[k].1 = id by simpa using h1)
        go_wp2_with fail
        go_ret
        exact ⟨by rw [atI_at l id k hlt h1'.out hq]; rfl, hr⟩
      · have h1' := Lib.hid (show l[k].1 ≠ id by simpa using h1)
        go_wp2_with fail
        go_roundw
        case rel => exact ⟨k + 1, by omega, by go_num, hr, fun q h h2 => by
          rcases Nat.lt_succ_iff_lt_or_eq.1 h2 with h3 | rfl
          · exact hq q h h3
          · exact h1'⟩
        case measure => simp [intOf]; omega
    · go_wp2_with fail
      go_ret
      exact ⟨by rw [atI_no l id fun q h => hq q h (by omega)]; rfl, hr⟩


theorem atI_lt (l : List It) (id : Int) : decide (atI l id < 0) = !hasI l id := by
  unfold atI
  cases hasI l id <;> simp

set_option maxHeartbeats 800000 in
theorem reffind_any (A : Option Addr) (n c : Nat) (l : List It) (id : Int) (w : World) (hl : KI.Rd w A n l) (hn : n ≤ 140737488355328) (hP : PosI l) :
    Calls Try.prog 24 #[.slice A n c, .int .u32 id] w fun e w' => e = .returned (.tuple #[.agg (itA ((findI l id).getD itZ)), .bool (findI l id).isSome]) ∧ New w w' := by
  obtain rfl : l.length = n := hl.1
  rcases Bool.eq_false_or_eq_true (mayI l) with hm | hm
  · rcases Bool.eq_false_or_eq_true (hasI l id) with hh | hh
    · obtain ⟨hp, hpe, hf⟩ := pos_has l id (risI_of l hm) hh
      clear hpe
      have hx : findI l id = some l[posI l id] := by rw [findI, if_pos hm, hf]
      rw [hx]
      have hA1 := refmay_any A l.length c l
      rw [hm] at hA1
      have HA := Lib.hid hA1
      have hB1 := refplace_any A l.length c l id
      rw [atI_pos l id (risI_of l hm) hh] at hB1
      have HB := Lib.hid hB1
      clear hx hf hA1 hB1 hm hh
      generalize hpp : posI l id = p at *
      have Hpp := Lib.hid hpp
      clear hpp
      go_enter Try.func24, Try.ntmps24
      go_wp2_with fail
      have hnW : New w (w.alloc (Obj.cells (itA itZ) 28)) := (New.rfl' w).alloc' _
      generalize hW : (w.alloc (Obj.cells (itA itZ) 28)) = W at *
      have hWz0 : w.heap.size < W.heap.size := by rw [← hW]; simp only [World.size_alloc]; omega
      have hWa0 : rowAt W (w.heap.size) = itA itZ := by rw [← hW]; simp [go_sem]
      have hWo0 : rowOk W (w.heap.size) = true := by rw [← hW]; simp [go_sem]
      clear hW
      have hWA := fun w' (h : New W w') n hn => rowAt_below h n hn
      have hWO := fun w' (h : New W w') n hn => rowOk_below h n hn
      have hWS := fun w' (h : New W w') n (hn : n < W.heap.size) => eq_true (Nat.lt_of_lt_of_le hn h.size)
      have hl2 := hl.new hnW
      have hl3 := hl2
      have hr := New.rfl' W
      obtain ⟨bhl2, ohl2, rfl, hbhl2, hchl2⟩ := hl2.2 (by omega)
      have hrhl2 : ∀ w', New W w' → ∀ k (hk : k < l.length), w'.cell? ⟨bhl2, ohl2 + k * 11, none⟩ = (itA l[k])[0]? := fun w' hw k hk => (hw.cell (p := ⟨bhl2, _, none⟩) hbhl2).trans (hchl2 k hk 0 (by decide))
      have hshl2 : ∀ w', New W w' → ∀ k (hk : k < l.length) j, j < 11 → w'.cell? ⟨bhl2, ohl2 + k * 11 + j, none⟩ = (itA l[k])[j]? := fun w' hw k hk j hj => (hw.cell (p := ⟨bhl2, _, none⟩) hbhl2).trans (hchl2 k hk j hj)
      clear hchl2
      go_wp2_with (first
        | (go_at_call 49; refine (HB.out _ hl3 hn).mono ?_; rintro e w1 ⟨rfl, hb1⟩)
        | (go_at_call 25; refine (HA.out _ (hl3.new hb1) hn hP).mono ?_; rintro e w2 ⟨rfl, hb⟩; have hb2 := New.call hb1 hb; clear hb))
      exact bodyPost_ret (results_it2 rfl _ _ w.heap.size _ rfl (by go_simp) (by go_simp)) rfl ⟨rfl, (hnW.call hb2).row _ _ (Nat.le_refl _)⟩
    · have hx : findI l id = none := by
        have := findI_has l id hm
        rw [hh] at this
        simpa using this
      rw [hx]
      have hA1 := refmay_any A l.length c l
      rw [hm] at hA1
      have HA := Lib.hid hA1
      have hB1 := refplace_any A l.length c l id
      rw [show atI l id = -1 by rw [atI, hh]; rfl] at hB1
      have HB := Lib.hid hB1
      clear hx hA1 hB1 hm hh
      go_enter Try.func24, Try.ntmps24
      go_wp2_with fail
      have hnW : New w (w.alloc (Obj.cells (itA itZ) 28)) := (New.rfl' w).alloc' _
      generalize hW : (w.alloc (Obj.cells (itA itZ) 28)) = W at *
      have hWz0 : w.heap.size < W.heap.size := by rw [← hW]; simp only [World.size_alloc]; omega
      have hWa0 : rowAt W (w.heap.size) = itA itZ := by rw [← hW]; simp [go_sem]
      have hWo0 : rowOk W (w.heap.size) = true := by rw [← hW]; simp [go_sem]
      clear hW
      have hWA := fun w' (h : New W w') n hn => rowAt_below h n hn
      have hWO := fun w' (h : New W w') n hn => rowOk_below h n hn
      have hWS := fun w' (h : New W w') n (hn : n < W.heap.size) => eq_true (Nat.lt_of_lt_of_le hn h.size)
      have hl3 := hl.new hnW
      go_wp2_with (first
        | (go_at_call 49; refine (HB.out _ hl3 hn).mono ?_; rintro e w1 ⟨rfl, hb1⟩)
        | (go_at_call 25; refine (HA.out _ (hl3.new hb1) hn hP).mono ?_; rintro e w2 ⟨rfl, hb⟩; have hb2 := New.call hb1 hb; clear hb))
      exact bodyPost_ret (results_it2 rfl _ _ w.heap.size _ rfl (by go_simp) (by go_simp)) rfl ⟨rfl, (hnW.call hb2).row _ _ (Nat.le_refl _)⟩
  · have hx : findI l id = none := by rw [findI, hm]; rfl
    rw [hx]
    have hA1 := refmay_any A l.length c l
    rw [hm] at hA1
    have HA := Lib.hid hA1
    have hB1 := refplace_any A l.length c l id
    generalize atI l id = q at *
    have HB := Lib.hid hB1
    clear hx hA1 hB1 hm
    go_enter Try.func24, Try.ntmps24
    go_wp2_with fail
    have hnW : New w (w.alloc (Obj.cells (itA itZ) 28)) := (New.rfl' w).alloc' _
    generalize hW : (w.alloc (Obj.cells (itA itZ) 28)) = W at *
    have hWz0 : w.heap.size < W.heap.size := by rw [← hW]; simp only [World.size_alloc]; omega
    have hWa0 : rowAt W (w.heap.size) = itA itZ := by rw [← hW]; simp [go_sem]
    have hWo0 : rowOk W (w.heap.size) = true := by rw [← hW]; simp [go_sem]
    clear hW
    have hWA := fun w' (h : New W w') n hn => rowAt_below h n hn
    have hWO := fun w' (h : New W w') n hn => rowOk_below h n hn
    have hWS := fun w' (h : New W w') n (hn : n < W.heap.size) => eq_true (Nat.lt_of_lt_of_le hn h.size)
    have hl3 := hl.new hnW
    go_wp2_with (first
      | (go_at_call 49; refine (HB.out _ hl3 hn).mono ?_; rintro e w1 ⟨rfl, hb1⟩)
      | (go_at_call 25; refine (HA.out _ (hl3.new hb1) hn hP).mono ?_; rintro e w2 ⟨rfl, hb⟩; have hb2 := New.call hb1 hb; clear hb))
    exact bodyPost_ret (results_it2 rfl _ _ w.heap.size _ rfl (by go_simp) (by go_simp)) rfl ⟨rfl, (hnW.call hb2).row _ _ (Nat.le_refl _)⟩
end Go.Proofs.Ytkgebhmlogddcaa
/- Contracts of the reference of the layer item: In, Without, Same. -/
namespace Go.Proofs.Ytkgebhmlogddcaa
open Go.RowKit
set_option linter.unusedSimpArgs false
attribute [local go_sem] rowAt_alloc_at rowAt_alloc_past rowOk_alloc_at rowOk_alloc_past rowAt_drew rowOk_drew setRow_alloc_at setRow_alloc_past rowAt_setRow rowAt_setRow_far rowOk_setRow cell_rowOk frozen_rowOk setCell_rowOk setRow_setRow con_fold con_get con_size con_set set_all none8_cells equalIn_con storeCells_con
attribute [local go_sem] it_size it_0 it_1 it_2 it_3 it_4 it_5 it_6 it_7 it_8 it_9 it_10 it_set0 it_set1 it_set2 it_fold it_zero it_eta it_fill run_storeCells_it
attribute [local go_sem high] equalIn_it

set_option maxHeartbeats 800000 in
theorem refin_i (A : Option Addr) (n c : Nat) (l : List It) (fo : Int) (w : World) (hl : KI.Rd w A n l) (hn : n ≤ 140737488355328) (hP : PosI l) :
    Calls Try.prog 26 #[.slice A n c, .int .u32 fo] w fun e w' => ∃ v, e = .returned v ∧ KI.Own w' w.heap.size v (inI l fo) ∧ New w w' := by
  obtain rfl : l.length = n := hl.1
  rcases Bool.eq_false_or_eq_true (mayI l) with hm | hm
  · have h40 := mayI_len l hm
    have hth : inI l fo = l.filter (fun x => x.2.1 == fo) := by simp [inI, thoseI, hm]
    rw [hth]
    have hA1 := refmay_any A l.length c l
    rw [hm] at hA1
    have HA := Lib.hid hA1
    clear hA1 hth hm
    have hl0 := hl
    go_enter Try.func26, Try.ntmps26
    have hwA := fun w' (h : New w w') n hn => rowAt_below h n hn
    have hwO := fun w' (h : New w w') n hn => rowOk_below h n hn
    have hwS := fun w' (h : New w w') n (hn : n < w.heap.size) => eq_true (Nat.lt_of_lt_of_le hn h.size)
    go_wp2_with fail
    go_loopw [5, 6] (fun v i wr => ∃ k : Nat, k ≤ l.length ∧ i = .int .i64 k ∧ New w wr ∧ KI.Own wr w.heap.size v ((l.take k).filter fun x => x.2.1 == fo)) (fun _ i _ => l.length - (intOf i).toNat)
    case atStart => exact ⟨0, by omega, rfl, New.rfl' w, Kind.Own.nil⟩
    case round =>
      obtain ⟨k, hk, rfl, hr, hv⟩ := hrel
      by_cases hlt : k < l.length
      · have hst := Lib.hid (filter_step (fun x => x.2.1 == fo) l k hlt)
        have hlen : ((l.take k).filter fun x => x.2.1 == fo).length ≤ k := by have := List.length_filter_le (fun x : It => x.2.1 == fo) (l.take k); rw [List.length_take] at this; omega
        obtain ⟨bhl, ohl, rfl, hbhl, hchl⟩ := hl.2 (by omega)
        have hrhl : ∀ w', New w w' → ∀ k (hk : k < l.length), w'.cell? ⟨bhl, ohl + k * 11, none⟩ = (itA l[k])[0]? := fun w' hw k hk => (hw.cell (p := ⟨bhl, _, none⟩) hbhl).trans (hchl k hk 0 (by decide))
        have hshl : ∀ w', New w w' → ∀ k (hk : k < l.length) j, j < 11 → w'.cell? ⟨bhl, ohl + k * 11 + j, none⟩ = (itA l[k])[j]? := fun w' hw k hk j hj => (hw.cell (p := ⟨bhl, _, none⟩) hbhl).trans (hchl k hk j hj)
        clear hchl
        generalize (l.take k).filter (fun x => x.2.1 == fo) = L at *
        have hd : decide ((k : Int) < (l.length : Int)) = true := by simpa using hlt
        rcases Bool.eq_false_or_eq_true (l[k].2.1 == fo) with h1 | h1
        · have hst2 := Lib.hid (show List.filter (fun x => x.2.1 == fo) (l.take (k + 1)) = L ++ [l[k]] by rw [hst.out, h1]; rfl)
          go_wp2_with (first
            | (go_at_call 25; refine (HA.out _ (hl0.new hr) hn hP).mono ?_; rintro e w1 ⟨rfl, hb1⟩; have hr1 := hr.call hb1; have hv1 := hv.new hb1)
            | (at_builtin; refine Kind.wpList_append1 rfl _ _ rfl rfl (hv1.alloc _) l[k] w1.heap.size rfl (by go_simp) (by go_simp <;> rfl) (by omega) KI_b (by have := hr1.size; simp only [World.size_alloc]; omega) ?_; intro v' w2 hv2 _ hg))
          go_roundw
          case rel => exact ⟨k + 1, by omega, by go_num, Kind.Own.grown (hr1.alloc' _) (hv1.alloc _) hg, by rw [hst2.out]; exact hv2⟩
          case measure => simp [intOf]; omega
        · have hst2 := Lib.hid (show List.filter (fun x => x.2.1 == fo) (l.take (k + 1)) = L by rw [hst.out, h1]; simp)
          go_wp2_with (first
            | (go_at_call 25; refine (HA.out _ (hl0.new hr) hn hP).mono ?_; rintro e w1 ⟨rfl, hb1⟩; have hr1 := hr.call hb1; have hv1 := hv.new hb1))
          go_roundw
          case rel => exact ⟨k + 1, by omega, by go_num, hr1, by rw [hst2.out]; exact hv1⟩
          case measure => simp [intOf]; omega
      · have hd : decide ((k : Int) < (l.length : Int)) = false := by simpa using hlt
        go_wp2_with (first
            | (go_at_call 25; refine (HA.out _ (hl0.new hr) hn hP).mono ?_; rintro e w1 ⟨rfl, hb1⟩; have hr1 := hr.call hb1; have hv1 := hv.new hb1))
        go_ret
        exact ⟨_, rfl, by rw [List.take_of_length_le (by omega)] at hv1; exact hv1, hr1⟩
  · have hth : inI l fo = [] := by simp [inI, thoseI, hm]
    rw [hth]
    have hA1 := refmay_any A l.length c l
    rw [hm] at hA1
    have HA := Lib.hid hA1
    clear hA1 hth hm
    go_enter Try.func26, Try.ntmps26
    have hwA := fun w' (h : New w w') n hn => rowAt_below h n hn
    have hwO := fun w' (h : New w w') n hn => rowOk_below h n hn
    have hwS := fun w' (h : New w w') n (hn : n < w.heap.size) => eq_true (Nat.lt_of_lt_of_le hn h.size)
    go_wp2_with fail
    go_loopw [5, 6] (fun v i wr => i = .int .i64 0 ∧ v = .slice none 0 0 ∧ New w wr) (fun _ _ _ => 0)
    case atStart => exact ⟨rfl, rfl, New.rfl' w⟩
    case round =>
      obtain ⟨rfl, rfl, hr⟩ := hrel
      go_wp2_with (first
            | (go_at_call 25; refine (HA.out _ (hl.new hr) hn hP).mono ?_; rintro e w1 ⟨rfl, hb1⟩; have hr1 := hr.call hb1))
      go_ret
      exact ⟨_, rfl, Kind.Own.nil, hr1⟩

theorem inU_step (x : Int) (l : List Int) (k : Nat) (hk : k < l.length) : inU x (l.take (k + 1)) = (inU x (l.take k) || x == l[k]) := by
  unfold inU
  rw [List.take_succ_eq_append_getElem hk, Bool.eq_iff_iff]
  simp only [Bool.or_eq_true, List.contains_iff_mem, List.mem_append, List.mem_singleton, beq_iff_eq]

set_option maxHeartbeats 1600000 in
theorem refwithout_i (A : Option Addr) (n c : Nat) (l : List It) (B : Option Addr) (m d : Nat) (fs : List Int) (w : World) (hl : KI.Rd w A n l) (hn : n ≤ 140737488355328) (hf : KU.Rd w B m fs) (hm2 : m ≤ 140737488355328) (hP : PosI l) :
    Calls Try.prog 27 #[.slice A n c, .slice B m d] w fun e w' => ∃ v, e = .returned v ∧ KI.Own w' w.heap.size v (withoutI l fs) ∧ New w w' := by
  obtain rfl : l.length = n := hl.1
  obtain rfl : fs.length = m := hf.1
  rcases Bool.eq_false_or_eq_true (mayI l) with hm | hm
  · have h40 := mayI_len l hm
    have hth : withoutI l fs = l.filter (fun x => !inU x.2.1 fs) := by simp [withoutI, thoseI, hm]
    rw [hth]
    have hA1 := refmay_any A l.length c l
    rw [hm] at hA1
    have HA := Lib.hid hA1
    clear hA1 hth hm
    have hl0 := hl
    have hf0 := hf
    go_enter Try.func27, Try.ntmps27
    have hwA := fun w' (h : New w w') n hn => rowAt_below h n hn
    have hwO := fun w' (h : New w w') n hn => rowOk_below h n hn
    have hwS := fun w' (h : New w w') n (hn : n < w.heap.size) => eq_true (Nat.lt_of_lt_of_le hn h.size)
    go_wp2_with fail
    go_loopw [5, 6] (fun v i wr => ∃ k : Nat, k ≤ l.length ∧ i = .int .i64 k ∧ New w wr ∧ KI.Own wr w.heap.size v ((l.take k).filter fun x => !inU x.2.1 fs)) (fun _ i _ => l.length - (intOf i).toNat)
    case atStart => exact ⟨0, by omega, rfl, New.rfl' w, Kind.Own.nil⟩
    case round =>
      obtain ⟨k, hk, rfl, hr, hv⟩ := hrel
      by_cases hlt : k < l.length
      · have hst := Lib.hid (filter_step (fun x => !inU x.2.1 fs) l k hlt)
        have hlen : ((l.take k).filter fun x => !inU x.2.1 fs).length ≤ k := by have := List.length_filter_le (fun x : It => !inU x.2.1 fs) (l.take k); rw [List.length_take] at this; omega
        obtain ⟨bhl, ohl, rfl, hbhl, hchl⟩ := hl.2 (by omega)
        have hrhl : ∀ w', New w w' → ∀ k (hk : k < l.length), w'.cell? ⟨bhl, ohl + k * 11, none⟩ = (itA l[k])[0]? := fun w' hw k hk => (hw.cell (p := ⟨bhl, _, none⟩) hbhl).trans (hchl k hk 0 (by decide))
        have hshl : ∀ w', New w w' → ∀ k (hk : k < l.length) j, j < 11 → w'.cell? ⟨bhl, ohl + k * 11 + j, none⟩ = (itA l[k])[j]? := fun w' hw k hk j hj => (hw.cell (p := ⟨bhl, _, none⟩) hbhl).trans (hchl k hk j hj)
        clear hchl
        generalize (l.take k).filter (fun x => !inU x.2.1 fs) = L at *
        have hd : decide ((k : Int) < (l.length : Int)) = true := by simpa using hlt
        go_wp2_with (first
            | (go_at_call 25; refine (HA.out _ (hl0.new hr) hn hP).mono ?_; rintro e w1 ⟨rfl, hb1⟩; have hr1 := hr.call hb1; have hv1 := hv.new hb1))
        go_loopw [7, 8] (fun b j wi => ∃ q : Nat, q ≤ fs.length ∧ j = .int .i64 q ∧ b = .bool (inU l[k].2.1 (fs.take q)) ∧ New w wi ∧ New w1 wi) (fun _ j _ => fs.length - (intOf j).toNat)
        case atStart => exact ⟨0, by omega, rfl, rfl, hr1, New.rfl' _⟩
        case round =>
          obtain ⟨q, hq, rfl, rfl, hri, hri2⟩ := hrel
          by_cases hltq : q < fs.length
          · have hstq := Lib.hid (inU_step l[k].2.1 fs q hltq)
            obtain ⟨bhf, ohf, rfl, hbhf, hchf⟩ := hf.2 (by omega)
            have hrhf : ∀ w', New w w' → ∀ k (hk : k < fs.length), w'.cell? ⟨bhf, ohf + k, none⟩ = some (.int .u32 fs[k]) := fun w' hw k hk => by have h1 := (hw.cell (p := ⟨bhf, _, none⟩) hbhf).trans (hchf k hk 0 (by decide)); simpa [KU_enc, KU_sz] using h1
            clear hchf
            generalize inU l[k].2.1 (fs.take q) = b at *
            cases b
            · go_wp2_with fail
              go_quiet (fail)
              go_wp2_with fail
              go_roundw
              case rel => exact ⟨q + 1, by omega, by go_num, by rw [hstq.out]; simp, below_drewN hri _, below_drewN hri2 _⟩
              case measure => simp [intOf]; omega
            · go_wp2_with fail
              go_quiet (fail)
              go_wp2_with fail
              go_roundw
              case rel => exact ⟨q + 1, by omega, by go_num, by rw [hstq.out]; simp, below_drewN hri _, below_drewN hri2 _⟩
              case measure => simp [intOf]; omega
          · have hv2 := hv1.new hri2
            have hfull : fs.take q = fs := List.take_of_length_le (by omega)
            rw [hfull]
            rcases Bool.eq_false_or_eq_true (inU l[k].2.1 fs) with h1 | h1
            · have hst2 := Lib.hid (show List.filter (fun x => !inU x.2.1 fs) (l.take (k + 1)) = L by rw [hst.out, h1]; simp)
              rw [h1]
              go_wp2_with fail
              go_roundw
              case rel => exact ⟨k + 1, by omega, by go_num, hri, by rw [hst2.out]; exact hv2⟩
              case measure => simp [intOf]; omega
            · have hst2 := Lib.hid (show List.filter (fun x => !inU x.2.1 fs) (l.take (k + 1)) = L ++ [l[k]] by rw [hst.out, h1]; rfl)
              rw [h1]
              go_wp2_with (first
                | (at_builtin; refine Kind.wpList_append1 rfl _ _ rfl rfl (hv2.alloc _) l[k] _ rfl (by go_simp) (by go_simp <;> rfl) (by omega) KI_b (by have := hri.size; simp only [World.size_alloc]; omega) ?_; intro v' w2 hv3 _ hg))
              go_roundw
              case rel => exact ⟨k + 1, by omega, by go_num, Kind.Own.grown (hri.alloc' _) (hv2.alloc _) hg, by rw [hst2.out]; exact hv3⟩
              case measure => simp [intOf]; omega
      · have hd : decide ((k : Int) < (l.length : Int)) = false := by simpa using hlt
        go_wp2_with (first
            | (go_at_call 25; refine (HA.out _ (hl0.new hr) hn hP).mono ?_; rintro e w1 ⟨rfl, hb1⟩; have hr1 := hr.call hb1; have hv1 := hv.new hb1))
        go_ret
        exact ⟨_, rfl, by rw [List.take_of_length_le (by omega)] at hv1; exact hv1, hr1⟩
  · have hth : withoutI l fs = [] := by simp [withoutI, thoseI, hm]
    rw [hth]
    have hA1 := refmay_any A l.length c l
    rw [hm] at hA1
    have HA := Lib.hid hA1
    clear hA1 hth hm
    go_enter Try.func27, Try.ntmps27
    have hwA := fun w' (h : New w w') n hn => rowAt_below h n hn
    have hwO := fun w' (h : New w w') n hn => rowOk_below h n hn
    have hwS := fun w' (h : New w w') n (hn : n < w.heap.size) => eq_true (Nat.lt_of_lt_of_le hn h.size)
    go_wp2_with fail
    go_loopw [5, 6] (fun v i wr => i = .int .i64 0 ∧ v = .slice none 0 0 ∧ New w wr) (fun _ _ _ => 0)
    case atStart => exact ⟨rfl, rfl, New.rfl' w⟩
    case round =>
      obtain ⟨rfl, rfl, hr⟩ := hrel
      go_wp2_with (first
            | (go_at_call 25; refine (HA.out _ (hl.new hr) hn hP).mono ?_; rintro e w1 ⟨rfl, hb1⟩; have hr1 := hr.call hb1))
      go_ret
      exact ⟨_, rfl, Kind.Own.nil, hr1⟩
end Go.Proofs.Ytkgebhmlogddcaa
/- Stores of whole items into rows of the call's own. No condition: helpers alone. -/
namespace Go.Proofs.Ytkgebhmlogddcaa
open Go.RowKit

def putI (cs : Array Value) (p : Nat) (x : It) : Array Value := (cs.toList.take (p * 11) ++ (itA x).toList ++ cs.toList.drop (p * 11 + 11)).toArray
theorem putI_size (cs : Array Value) (p : Nat) (x : It) (h : p * 11 + 11 ≤ cs.size) : (putI cs p x).size = cs.size := by
  simp [putI, it_size]; omega
theorem run_storeCells_itp (w : World) (g p : Nat) (x : It) (h : rowOk w g = true) (hs : p * 11 + 11 ≤ (rowAt w g).size) :
    (storeCells ⟨g, p * 11, none⟩ (itA x).toList).run Try.prog w = .ok () (w.setRow g (putI (rowAt w g) p x)) := by
  obtain ⟨t, ht⟩ := rowOk_get w h
  have := run_storeCells_at (P := Try.prog) g (p * 11) t (itA x).toList 0 (rowAt w g) w ht (by rw [Array.length_toList, it_size]; omega) (fun v hv => (Array.all_eq_true_iff_forall_mem.1 (it_one x)) v (by simpa using hv))
  simpa [putI, it_size] using this
theorem seg_take (c e : List Value) (a N : Nat) (h : a + e.length ≤ N) (hN : N ≤ c.length) : (c.take a ++ e ++ c.drop (a + e.length)).take N = (c.take N).take a ++ e ++ (c.take N).drop (a + e.length) := by
  rw [List.append_assoc, List.take_append, List.take_append, List.take_take, List.take_take, List.length_take, List.drop_take, List.append_assoc]
  rw [show min N a = a by omega, show min a N = a by omega, show min a c.length = a by omega, List.take_of_length_le (l := e) (by omega), show N - a - e.length = N - (a + e.length) by omega]
theorem flat_set (l : List It) (p : Nat) (x : It) (hp : p < l.length) : (KI.flat l).take (p * 11) ++ (itA x).toList ++ (KI.flat l).drop (p * 11 + 11) = KI.flat (l.set p x) := by
  have hl : l = l.take p ++ [l[p]] ++ l.drop (p + 1) := by simp
  have h1 : (KI.flat (l.take p)).length = p * 11 := by rw [KI.flat_length, List.length_take, KI_sz, show min p l.length = p by omega]
  have h2 : (KI.flat [l[p]]).length = 11 := by rw [KI.flat_length, KI_sz]; rfl
  have h3 : KI.flat l = KI.flat (l.take p) ++ (KI.flat [l[p]] ++ KI.flat (l.drop (p + 1))) := by
    rw [← KI.flat_append, ← KI.flat_append, ← List.append_assoc, ← hl]
  rw [h3, List.take_append_of_le_length (by omega), List.take_of_length_le (by omega), ← h1, List.drop_append, List.drop_of_length_le (by omega), List.nil_append,
    show (KI.flat (l.take p)).length + 11 - (KI.flat (l.take p)).length = 11 by omega, ← h2, List.drop_left, List.set_eq_take_append_cons_drop, if_pos hp, KI.flat_append, KI.flat_cons, List.append_assoc]
  rfl

/-- where an own row lies -/
theorem Kind.Own.spot {w : World} {base n c : Nat} {A : Option Addr} {l : List It} (h : KI.Own w base (.slice A n c) l) (h0 : 0 < l.length) :
    ∃ g, A = some ⟨g, 0, none⟩ ∧ n = l.length ∧ base ≤ g ∧ rowOk w g = true ∧ l.length * 11 ≤ (rowAt w g).size := by
  rcases h.2 with ⟨_, hn⟩ | ⟨g, cap, cur, hv, hb, hg, hnc, _, hcs, _⟩
  · omega
  · injection hv with h1 h2 h3
    subst h1; subst h2
    refine ⟨g, rfl, rfl, hb, ?_, ?_⟩
    · unfold rowOk; rw [hg]; rfl
    · unfold rowAt; rw [hg]
      have : cur.size = cap * 11 := hcs
      simp only [this]
      exact Nat.mul_le_mul_right _ hnc
theorem Kind.Own.put {w : World} {base n c g p : Nat} {l : List It} (h : KI.Own w base (.slice (some ⟨g, 0, none⟩) n c) l) (x : It) (hp : p < l.length) :
    KI.Own (w.setRow g (putI (rowAt w g) p x)) base (.slice (some ⟨g, 0, none⟩) n c) (l.set p x) := by
  rcases h.2 with ⟨hv, _⟩ | ⟨g', cap, cur, hv, hb, hg, hnc, hcm, hcs, htake⟩
  · cases hv
  · injection hv with h1 h2 h3
    injection h1 with h1
    injection h1 with h1
    subst h1; subst h2; subst h3
    have hcs' : cur.size = c * 11 := hcs
    have hr : rowAt w g = cur := by unfold rowAt; rw [hg]
    have hlt : p * 11 + 11 ≤ l.length * 11 := by omega
    have hlc : l.length * 11 ≤ c * 11 := Nat.mul_le_mul_right _ hnc
    unfold Kind.Own
    rw [List.length_set]
    refine ⟨by rw [KI.flat_length, List.length_set], .inr ⟨g, c, putI cur p x, rfl, hb, by rw [hr]; exact setRow_heap w g cur _ _ _ hg, hnc, hcm, by rw [putI_size _ _ _ (by omega)]; exact hcs, ?_⟩⟩
    have ht : cur.toList.take (l.length * 11) = KI.flat l := htake
    have h11 : (itA x).toList.length = 11 := rfl
    show ((cur.toList.take (p * 11) ++ (itA x).toList ++ cur.toList.drop (p * 11 + 11)).toArray.toList).take (l.length * 11) = _
    have := seg_take cur.toList (itA x).toList (p * 11) (l.length * 11) (by rw [h11]; omega) (by have e : cur.toList.length = cur.size := Array.length_toList; omega)
    rw [h11, ht] at this
    rw [this, flat_set l p x hp]
end Go.Proofs.Ytkgebhmlogddcaa
/- Contracts of the reference of the layer item: Same, Drop, Change, Add. -/
namespace Go.Proofs.Ytkgebhmlogddcaa
open Go.RowKit
set_option linter.unusedSimpArgs false
attribute [local go_sem] rowAt_alloc_at rowAt_alloc_past rowOk_alloc_at rowOk_alloc_past rowAt_drew rowOk_drew setRow_alloc_at setRow_alloc_past rowAt_setRow rowAt_setRow_far rowOk_setRow cell_rowOk frozen_rowOk setCell_rowOk setRow_setRow con_fold con_get con_size con_set set_all none8_cells equalIn_con storeCells_con
attribute [local go_sem] it_size it_0 it_1 it_2 it_3 it_4 it_5 it_6 it_7 it_8 it_9 it_10 it_set0 it_set1 it_set2 it_fold it_zero it_eta it_fill run_storeCells_it
attribute [local go_sem high] equalIn_it
attribute [local go_sem] run_storeCells_itp eqg_it

theorem list_ne_at (a b : List It) (k : Nat) (ha : k < a.length) (hb : k < b.length) (h : a[k] ≠ b[k]) : a ≠ b := by
  intro e; subst e; exact h rfl
set_option maxHeartbeats 800000 in
theorem refsame_any (A : Option Addr) (n c : Nat) (a : List It) (B : Option Addr) (m d : Nat) (b : List It) (w : World) (ha : KI.Rd w A n a) (hb : KI.Rd w B m b) (hn : n ≤ 140737488355328) (hm : m ≤ 140737488355328) :
    Calls Try.prog 18 #[.slice A n c, .slice B m d] w fun e w' => e = .returned (.bool (decide (a = b))) ∧ New w w' := by
  obtain rfl : a.length = n := ha.1
  obtain rfl : b.length = m := hb.1
  by_cases hab : a.length = b.length
  · have hE1 : ((a.length : Int) == (b.length : Int)) = true := by simp [hab]
    have HAB := Lib.hid hab
    clear hab
    go_enter Try.func18, Try.ntmps18
    go_wp2_with fail
    have hwA := fun w' (h : New w w') n hn => rowAt_below h n hn
    have hwO := fun w' (h : New w w') n hn => rowOk_below h n hn
    have hwS := fun w' (h : New w w') n (hn : n < w.heap.size) => eq_true (Nat.lt_of_lt_of_le hn h.size)
    go_loopw [5] (fun i wr => ∃ k : Nat, k ≤ a.length ∧ i = .int .i64 k ∧ New w wr ∧ ∀ q, (h : q < a.length) → (h2 : q < b.length) → q < k → Hid (a[q] = b[q])) (fun i _ => a.length - (intOf i).toNat)
    case atStart => exact ⟨0, by omega, rfl, New.rfl' w, fun _ _ _ h => absurd h (by omega)⟩
    case round =>
      obtain ⟨k, hk, rfl, hr, hq⟩ := hrel
      by_cases hlt : k < a.length
      · have hlt2 : k < b.length := by have := HAB.out; omega
        obtain ⟨bha, oha, rfl, hbha, hcha⟩ := ha.2 (by omega)
        have hrha : ∀ w', New w w' → ∀ k (hk : k < a.length), w'.cell? ⟨bha, oha + k * 11, none⟩ = (itA a[k])[0]? := fun w' hw k hk => (hw.cell (p := ⟨bha, _, none⟩) hbha).trans (hcha k hk 0 (by decide))
        have hsha : ∀ w', New w w' → ∀ k (hk : k < a.length) j, j < 11 → w'.cell? ⟨bha, oha + k * 11 + j, none⟩ = (itA a[k])[j]? := fun w' hw k hk j hj => (hw.cell (p := ⟨bha, _, none⟩) hbha).trans (hcha k hk j hj)
        clear hcha
        obtain ⟨bhb, ohb, rfl, hbhb, hchb⟩ := hb.2 (by omega)
        have hrhb : ∀ w', New w w' → ∀ k (hk : k < b.length), w'.cell? ⟨bhb, ohb + k * 11, none⟩ = (itA b[k])[0]? := fun w' hw k hk => (hw.cell (p := ⟨bhb, _, none⟩) hbhb).trans (hchb k hk 0 (by decide))
        have hshb : ∀ w', New w w' → ∀ k (hk : k < b.length) j, j < 11 → w'.cell? ⟨bhb, ohb + k * 11 + j, none⟩ = (itA b[k])[j]? := fun w' hw k hk j hj => (hw.cell (p := ⟨bhb, _, none⟩) hbhb).trans (hchb k hk j hj)
        clear hchb
        by_cases he : a[k] = b[k]
        · have hd : decide (a[k] = b[k]) = true := by simpa using he
          have HE := Lib.hid he
          clear he
          go_wp2_with fail
          go_quiet (fail)
          go_wp2_with fail
          go_roundw
          case rel => exact ⟨k + 1, by omega, by go_num, below_drewN hr _, fun q h h2 hqk => by
            rcases Nat.lt_succ_iff_lt_or_eq.1 hqk with h3 | rfl
            · exact hq q h h2 h3
            · exact HE⟩
          case measure => simp [intOf]; omega
        · have hd : decide (a[k] = b[k]) = false := by simpa using he
          have HE := Lib.hid he
          clear he
          go_wp2_with fail
          go_quiet (fail)
          go_wp2_with fail
          go_ret
          exact ⟨by rw [decide_eq_false (list_ne_at a b k hlt hlt2 HE.out)]; rfl, below_drewN hr _⟩
      · go_wp2_with fail
        go_ret
        refine ⟨?_, hr⟩
        have : a = b := List.ext_getElem HAB.out fun q h1 h2 => (hq q h1 h2 (by omega)).out
        rw [decide_eq_true this]; rfl
  · have hE1 : ((a.length : Int) == (b.length : Int)) = false := by simp; omega
    have hne : a ≠ b := fun e => hab (by rw [e])
    have HN := Lib.hid hne
    clear hne hab
    go_enter Try.func18, Try.ntmps18
    go_wp2_with fail
    go_ret
    exact ⟨by rw [decide_eq_false HN.out]; rfl, New.rfl' w⟩
end Go.Proofs.Ytkgebhmlogddcaa
