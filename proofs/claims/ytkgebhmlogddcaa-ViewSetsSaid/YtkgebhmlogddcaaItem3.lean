/- Contracts of the layer item: those of a folder, those without some folders. -/
import Derived.Test.YtkgebhmlogddcaaItem2
namespace Go.Proofs.Ytkgebhmlogddcaa
open Go.RowKit
set_option linter.unusedSimpArgs false
attribute [local go_sem] rowAt_alloc_at rowAt_alloc_past rowOk_alloc_at rowOk_alloc_past rowAt_drew rowOk_drew setRow_alloc_at setRow_alloc_past rowAt_setRow rowAt_setRow_far rowOk_setRow cell_rowOk frozen_rowOk setCell_rowOk setRow_setRow con_fold con_get con_size con_set set_all none8_cells equalIn_con storeCells_con
attribute [local go_sem] it_size it_0 it_1 it_2 it_3 it_4 it_5 it_6 it_7 it_8 it_9 it_10 it_set0 it_set1 it_set2 it_fold it_zero it_eta it_fill run_storeCells_it

/-! ### is a number among others? -/
def inU (x : Int) (l : List Int) : Bool := l.contains x
def IdxOf (l : List Int) (x i : Int) : Prop := decide (0 ≤ i) = inU x l
set_option maxHeartbeats 400000 in
theorem uindex_any (A : Option Addr) (n c : Nat) (l : List Int) (x : Int) (w : World) (hl : KU.Rd w A n l) (hn : n ≤ 140737488355328) :
    Calls Try.prog 72 #[.slice A n c, .int .u32 x] w fun e w' => ∃ i : Int, e = .returned (.int .i64 i) ∧ IdxOf l x i ∧ w = w' := by
  obtain rfl : l.length = n := hl.1
  go_enter Try.func72, Try.ntmps72
  go_wp2_with fail
  have hr := New.rfl' w
  go_loop [8] (fun i => ∃ k : Nat, k ≤ l.length ∧ i = .int .i64 k ∧ Hid (∀ q, (h : q < l.length) → q < k → l[q] ≠ x)) (fun i => l.length - (intOf i).toNat)
  case atStart => exact ⟨0, by omega, rfl, fun q _ h => by omega⟩
  case round =>
    obtain ⟨k, hk, rfl, hq⟩ := hrel
    by_cases hlt : k < l.length
    · skip
      obtain ⟨bhl, ohl, rfl, hbhl, hchl⟩ := hl.2 (by omega)
      have hrhl : ∀ w', New w w' → ∀ k (hk : k < l.length), w'.cell? ⟨bhl, ohl + k, none⟩ = some (.int .u32 l[k]) := fun w' hw k hk => by have h1 := (hw.cell (p := ⟨bhl, _, none⟩) hbhl).trans (hchl k hk 0 (by decide)); simpa [KU_enc, KU_sz] using h1
      clear hchl
      by_cases he : x = l[k]
      · have he' : (x == l[k]) = true := by simpa using he
        have HE := Lib.hid he
        clear he
        go_wp2
        go_ret
        refine ⟨k, rfl, ?_, rfl⟩
        rw [IdxOf, decide_eq_true (by omega), eq_comm, inU, List.contains_iff_mem, HE.out]
        exact List.getElem_mem hlt
      · have he' : (x == l[k]) = false := by simpa using he
        have HE := Lib.hid he
        clear he
        go_wp2
        go_round
        case rel =>
          refine ⟨k + 1, by omega, by go_num, fun q h hqk => ?_⟩
          by_cases e : q = k
          · subst e; exact fun hh => HE.out hh.symm
          · exact hq.out q h (by omega)
        case measure => simp [intOf]; omega
    · go_wp2
      go_ret
      refine ⟨-1, rfl, ?_, rfl⟩
      rw [IdxOf, decide_eq_false (by omega), eq_comm, ← Bool.not_eq_true, inU, List.contains_iff_mem]
      intro hm
      obtain ⟨q, h, e⟩ := List.getElem_of_mem hm
      exact hq.out q h (by omega) e
set_option maxHeartbeats 400000 in
theorem ucontains_any (A : Option Addr) (n c : Nat) (l : List Int) (x : Int) (w : World) (hl : KU.Rd w A n l) (hn : n ≤ 140737488355328) :
    Calls Try.prog 53 #[.slice A n c, .int .u32 x] w fun e w' => e = .returned (.bool (inU x l)) ∧ w = w' := by
  go_enter Try.func53, Try.ntmps53
  go_wp2_with (first | (go_at_call 72; refine (uindex_any A n c l x _ hl hn).mono ?_; rintro e w' ⟨i, rfl, hi, rfl⟩; have Hi := Lib.hid hi; clear hi))
  go_ret
  have h := Hi.out
  unfold IdxOf at h
  exact ⟨by rw [← h]; rfl, rfl⟩

/-! ### the predicates -/
set_option maxHeartbeats 400000 in
theorem in1_any (x : It) (g : Nat) (fo : Int) (w : World) (hok : rowOk w g = true) (hg : rowAt w g = #[.int .u32 fo]) :
    Calls Try.prog 51 #[.agg (itA x), .pointer (some ⟨g, 0, none⟩)] w fun e w' => e = .returned (.bool (x.2.1 == fo)) ∧ New w w' := by
  have hlt := rowOk_lt w hok
  go_enter Try.func51, Try.ntmps51
  go_wp2
  go_ret
  exact ⟨rfl, (New.rfl' w).alloc' _⟩
set_option maxHeartbeats 400000 in
theorem without1_any (x : It) (g : Nat) (A : Option Addr) (n c : Nat) (l : List Int) (w : World) (hok : rowOk w g = true) (hg : rowAt w g = #[.slice A n c]) (hl : KU.Rd w A n l) (hn : n ≤ 140737488355328) :
    Calls Try.prog 52 #[.agg (itA x), .pointer (some ⟨g, 0, none⟩)] w fun e w' => e = .returned (.bool (!inU x.2.1 l)) ∧ New w w' := by
  have hlt := rowOk_lt w hok
  go_enter Try.func52, Try.ntmps52
  go_wp2_with (first | (go_at_call 53; refine (ucontains_any A n c l _ _ (hl.alloc _) hn).mono ?_; rintro e w' ⟨rfl, rfl⟩))
  go_ret
  exact ⟨rfl, (New.rfl' w).alloc' _⟩

/-! ### those of which something holds -/
def thoseI (l : List It) (p : It → Bool) : List It := if mayI l then l.filter p else []
theorem filter_step {α : Type} (p : α → Bool) (l : List α) (k : Nat) (hk : k < l.length) : (l.take (k + 1)).filter p = (l.take k).filter p ++ (if p l[k] then [l[k]] else []) := by
  rw [List.take_succ_eq_append_getElem hk, List.filter_append]
  by_cases h : p l[k] = true <;> simp [h]

set_option maxHeartbeats 800000 in
set_option maxRecDepth 100000 in
theorem those_any (A : Option Addr) (n c : Nat) (l : List It) (g : Nat) (cap : Value) (p : It → Bool) (w : World) (hl : KI.Rd w A n l) (hn : n ≤ 140737488355328)
    (hcall : ∀ args w', (callFunc g args).run Try.prog w' = .ok (.enter g args) w') (hp : ∀ x w', New w w' → Calls Try.prog g #[.agg (itA x), cap] w' fun e w'' => e = .returned (.bool (p x)) ∧ New w' w'') :
    Calls Try.prog 50 #[.slice A n c, .func (.func g) #[] #[cap]] w fun e w' => ∃ v, e = .returned v ∧ KI.Own w' w.heap.size v (thoseI l p) ∧ New w w' := by
  obtain rfl : l.length = n := hl.1
  have HP := Lib.hid hp
  clear hp
  rcases Bool.eq_false_or_eq_true (mayI l) with hm | hm
  · have h40 := mayI_len l hm
    have hth : thoseI l p = l.filter p := by simp [thoseI, hm]
    rw [hth]
    have hA1 := imay_any A l.length c l
    rw [hm] at hA1
    have HA := Lib.hid hA1
    clear hA1 hth hm
    have hl0 := hl
    go_enter Try.func50, Try.ntmps50
    have hwA := fun w' (h : New w w') n hn => rowAt_below h n hn
    have hwO := fun w' (h : New w w') n hn => rowOk_below h n hn
    have hwS := fun w' (h : New w w') n (hn : n < w.heap.size) => eq_true (Nat.lt_of_lt_of_le hn h.size)
    go_wp2_with (first | (go_at_call 21; refine (HA.out _ hl0 hn).mono ?_; rintro e w1 ⟨rfl, hb1⟩))
    go_loopw [5, 13] (fun v i wr => ∃ k : Nat, k ≤ l.length ∧ i = .int .i64 k ∧ New w wr ∧ KI.Own wr w.heap.size v ((l.take k).filter p)) (fun _ i _ => l.length - (intOf i).toNat)
    case atStart => exact ⟨0, by omega, rfl, hb1, Kind.Own.nil⟩
    case round =>
      obtain ⟨k, hk, rfl, hr, hv⟩ := hrel
      by_cases hlt : k < l.length
      · have hst := Lib.hid (filter_step p l k hlt)
        have hlen : ((l.take k).filter p).length ≤ k := by have := List.length_filter_le p (l.take k); rw [List.length_take] at this; omega
        obtain ⟨bhl, ohl, rfl, hbhl, hchl⟩ := hl.2 (by omega)
        have hrhl : ∀ w', New w w' → ∀ k (hk : k < l.length), w'.cell? ⟨bhl, ohl + k * 11, none⟩ = (itA l[k])[0]? := fun w' hw k hk => (hw.cell (p := ⟨bhl, _, none⟩) hbhl).trans (hchl k hk 0 (by decide))
        have hshl : ∀ w', New w w' → ∀ k (hk : k < l.length) j, j < 11 → w'.cell? ⟨bhl, ohl + k * 11 + j, none⟩ = (itA l[k])[j]? := fun w' hw k hk j hj => (hw.cell (p := ⟨bhl, _, none⟩) hbhl).trans (hchl k hk j hj)
        clear hchl
        go_wp2_with fail
        have hr1 := hr.alloc' (Obj.cells (itA l[k]) 28)
        refine (HP.out _ _ hr1).mono ?_
        rintro e w1 ⟨rfl, hb⟩
        have hv1 := (hv.alloc (Obj.cells (itA l[k]) 28)).new hb
        have hA1 := rowAt_below hb wr.heap.size (by simp)
        have hO1 := rowOk_below hb wr.heap.size (by simp)
        simp only [rowAt_alloc_at _ _ _ _ rfl, rowOk_alloc_at _ _ _ _ rfl] at hA1 hO1
        have hr2 := hr1.call hb
        have hz := hb.size
        simp only [World.size_alloc] at hz
        clear hb hr1
        generalize hpk : p l[k] = pk at *
        have Hpk := Lib.hid hpk
        clear hpk
        cases pk
        · go_wp2_with fail
          go_roundw
          case rel => exact ⟨k + 1, by omega, by go_num, hr2, by rw [hst.out]; simpa using hv1⟩
          case measure => simp [intOf]; omega
        · go_wp2_with (first | (at_builtin; refine Kind.wpList_append1 rfl _ _ rfl rfl (hv1.alloc _) l[k] w1.heap.size rfl (by go_simp) (by go_simp <;> rfl) (by omega) KI_b (by have := hr2.size; simp only [World.size_alloc]; omega) ?_; intro v' w2 hv2 _ hg))
          go_roundw
          case rel => exact ⟨k + 1, by omega, by go_num, Kind.Own.grown (hr2.alloc' _) (hv1.alloc _) hg, by rw [hst.out]; simpa using hv2⟩
          case measure => simp [intOf]; omega
      · go_wp2_with fail
        go_ret
        exact ⟨_, rfl, by rw [List.take_of_length_le (by omega)] at hv; exact hv, hr⟩
  · have hth : thoseI l p = [] := by simp [thoseI, hm]
    rw [hth]
    have hA1 := imay_any A l.length c l
    rw [hm] at hA1
    have HA := Lib.hid hA1
    clear hA1 hth hm
    go_enter Try.func50, Try.ntmps50
    go_wp2_with (first | (go_at_call 21; refine (HA.out _ hl hn).mono ?_; rintro e w1 ⟨rfl, hb1⟩))
    go_ret
    exact ⟨_, rfl, Kind.Own.nil, hb1⟩

/-! ### the items of a folder, and those that are in none of some -/
theorem call_in1 (args : Array Value) (w : World) : (callFunc 51 args).run Try.prog w = .ok (.enter 51 args) w := call_go Try.func51 (by kernel_rfl) (by kernel_rfl) args w
theorem call_without1 (args : Array Value) (w : World) : (callFunc 52 args).run Try.prog w = .ok (.enter 52 args) w := call_go Try.func52 (by kernel_rfl) (by kernel_rfl) args w
def inI (l : List It) (fo : Int) : List It := thoseI l fun x => x.2.1 == fo
def withoutI (l : List It) (fs : List Int) : List It := thoseI l fun x => !inU x.2.1 fs
set_option maxHeartbeats 400000 in
theorem iIn_any (A : Option Addr) (n c : Nat) (l : List It) (fo : Int) (w : World) (hl : KI.Rd w A n l) (hn : n ≤ 140737488355328) :
    Calls Try.prog 20 #[.slice A n c, .int .u32 fo] w fun e w' => ∃ v, e = .returned v ∧ KI.Own w' w.heap.size v (inI l fo) ∧ New w w' := by
  go_enter Try.func20, Try.ntmps20
  go_wp2_with fail
  have hnW : New w (w.alloc (Obj.cells (#[.int .u32 fo]) 23)) := (New.rfl' w).alloc' _
  generalize hW : (w.alloc (Obj.cells (#[.int .u32 fo]) 23)) = W at *
  have hWz0 : w.heap.size < W.heap.size := by rw [← hW]; simp only [World.size_alloc]; omega
  have hWa0 : rowAt W (w.heap.size) = #[.int .u32 fo] := by rw [← hW]; simp [go_sem]
  have hWo0 : rowOk W (w.heap.size) = true := by rw [← hW]; simp [go_sem]
  clear hW
  have hWA := fun w' (h : New W w') n hn => rowAt_below h n hn
  have hWO := fun w' (h : New W w') n hn => rowOk_below h n hn
  have hWS := fun w' (h : New W w') n (hn : n < W.heap.size) => eq_true (Nat.lt_of_lt_of_le hn h.size)
  refine (those_any A n c l 51 (.pointer (some ⟨w.heap.size, 0, none⟩)) (fun x => x.2.1 == fo) W (hl.new hnW) hn call_in1 (fun x w' h => in1_any x w.heap.size fo w' (by rw [hWO w' h _ hWz0, hWo0]) (by rw [hWA w' h _ hWz0, hWa0]))).mono ?_
  rintro e w1 ⟨v, rfl, hv, hb⟩
  have hv' := hv.lower (b := w.heap.size) (by omega)
  go_wp2_with fail
  go_ret
  exact ⟨v, rfl, hv', hnW.call hb⟩
set_option maxHeartbeats 400000 in
theorem iWithout_any (A : Option Addr) (n c : Nat) (l : List It) (B : Option Addr) (m d : Nat) (fs : List Int) (w : World) (hl : KI.Rd w A n l) (hn : n ≤ 140737488355328) (hf : KU.Rd w B m fs) (hm : m ≤ 140737488355328) :
    Calls Try.prog 23 #[.slice A n c, .slice B m d] w fun e w' => ∃ v, e = .returned v ∧ KI.Own w' w.heap.size v (withoutI l fs) ∧ New w w' := by
  go_enter Try.func23, Try.ntmps23
  go_wp2_with fail
  have hnW : New w (w.alloc (Obj.cells (#[.slice B m d]) 43)) := (New.rfl' w).alloc' _
  generalize hW : (w.alloc (Obj.cells (#[.slice B m d]) 43)) = W at *
  have hWz0 : w.heap.size < W.heap.size := by rw [← hW]; simp only [World.size_alloc]; omega
  have hWa0 : rowAt W (w.heap.size) = #[.slice B m d] := by rw [← hW]; simp [go_sem]
  have hWo0 : rowOk W (w.heap.size) = true := by rw [← hW]; simp [go_sem]
  clear hW
  have hWA := fun w' (h : New W w') n hn => rowAt_below h n hn
  have hWO := fun w' (h : New W w') n hn => rowOk_below h n hn
  have hWS := fun w' (h : New W w') n (hn : n < W.heap.size) => eq_true (Nat.lt_of_lt_of_le hn h.size)
  refine (those_any A n c l 52 (.pointer (some ⟨w.heap.size, 0, none⟩)) (fun x => !inU x.2.1 fs) W (hl.new hnW) hn call_without1 (fun x w' h => without1_any x w.heap.size B m d fs w' (by rw [hWO w' h _ hWz0, hWo0]) (by rw [hWA w' h _ hWz0, hWa0]) ((hf.new hnW).new h) hm)).mono ?_
  rintro e w1 ⟨v, rfl, hv, hb⟩
  have hv' := hv.lower (b := w.heap.size) (by omega)
  go_wp2_with fail
  go_ret
  exact ⟨v, rfl, hv', hnW.call hb⟩
end Go.Proofs.Ytkgebhmlogddcaa
