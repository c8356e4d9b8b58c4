/- The law ItemParts, walked. -/
import Derived.Test.YtkgebhmlogddcaaItemDoes
namespace Go.Proofs.Ytkgebhmlogddcaa
open Go.RowKit
set_option linter.unusedSimpArgs false
attribute [local go_sem] rowAt_alloc_at rowAt_alloc_past rowOk_alloc_at rowOk_alloc_past rowAt_drew rowOk_drew setRow_alloc_at setRow_alloc_past rowAt_setRow rowAt_setRow_far rowOk_setRow cell_rowOk frozen_rowOk setCell_rowOk setRow_setRow con_fold con_get con_size con_set set_all none8_cells equalIn_con storeCells_con
attribute [local go_sem] it_size it_0 it_1 it_2 it_3 it_4 it_5 it_6 it_7 it_8 it_9 it_10 it_set0 it_set1 it_set2 it_fold it_zero it_eta it_fill run_storeCells_it
attribute [local go_sem high] equalIn_it
attribute [local go_sem] eqg_it

/-! ### the plain law -/
theorem filt_at (l : List It) (p : It → Bool) (n : Nat) (hn : n < l.length) (hp : p l[n] = true) : ∃ h : ((l.take n).filter p).length < (l.filter p).length, (l.filter p)[((l.take n).filter p).length] = l[n] := by
  have e : l.filter p = (l.take n).filter p ++ (l[n] :: (l.drop (n + 1)).filter p) := by
    have h1 : l = l.take n ++ l[n] :: l.drop (n + 1) := by rw [← List.drop_eq_getElem_cons hn, List.take_append_drop]
    calc l.filter p = (l.take n ++ l[n] :: l.drop (n + 1)).filter p := by rw [← h1]
      _ = _ := by rw [List.filter_append, List.filter_cons, if_pos hp]
  have hlt : ((l.take n).filter p).length < (l.filter p).length := by rw [e]; simp
  refine ⟨hlt, ?_⟩
  have : (l.filter p)[((l.take n).filter p).length]? = some l[n] := by rw [e]; simp
  rw [List.getElem?_eq_getElem hlt] at this
  exact Option.some.inj this
theorem filt_yes (l : List It) (p : It → Bool) (n : Nat) (hn : n < l.length) (hp : p l[n] = true) : ((l.take (n + 1)).filter p).length = ((l.take n).filter p).length + 1 := by
  rw [filter_step p l n hn, hp]; simp
theorem filt_no (l : List It) (p : It → Bool) (n : Nat) (hn : n < l.length) (hp : p l[n] = false) : ((l.take (n + 1)).filter p).length = ((l.take n).filter p).length := by
  rw [filter_step p l n hn, hp]; simp
def pIn (fo : Int) (x : It) : Bool := x.2.1 == fo
def pOut (fo : Int) (x : It) : Bool := !(x.2.1 == fo)
theorem in_eq (l : List It) (fo : Int) (hm : mayI l = true) : inI l fo = l.filter (pIn fo) := by
  rw [inI, thoseI, if_pos hm]; rfl
theorem out_eq (l : List It) (fo : Int) (hm : mayI l = true) : withoutI l [fo] = l.filter (pOut fo) := by
  rw [withoutI, thoseI, if_pos hm]
  congr 1
  funext x
  simp [inU, pOut, List.contains_cons]
  rfl

def cntP (p : It → Bool) (l : List It) (q : Nat) : Nat := ((l.take q).filter p).length
theorem cntP_at (l : List It) (p : It → Bool) (n : Nat) (hn : n < l.length) (hp : p l[n] = true) : ∃ h : cntP p l n < (l.filter p).length, (l.filter p)[cntP p l n] = l[n] := filt_at l p n hn hp
theorem cntP_yes (l : List It) (p : It → Bool) (n : Nat) (hn : n < l.length) (hp : p l[n] = true) : cntP p l (n + 1) = cntP p l n + 1 := filt_yes l p n hn hp
theorem cntP_no (l : List It) (p : It → Bool) (n : Nat) (hn : n < l.length) (hp : p l[n] = false) : cntP p l (n + 1) = cntP p l n := filt_no l p n hn hp
theorem cntP_end (l : List It) (p : It → Bool) : cntP p l l.length = (l.filter p).length := by rw [cntP, List.take_of_length_le (Nat.le_refl _)]
theorem cntP_le (l : List It) (p : It → Bool) (n : Nat) : cntP p l n ≤ l.length := by
  have h1 := List.length_filter_le p (l.take n)
  rw [List.length_take] at h1
  unfold cntP; omega
set_option maxHeartbeats 3200000 in
set_option maxRecDepth 100000 in
theorem parts_ok (A : Option Addr) (c : Nat) (l : List It) (fo : Int) (w : World) (hl : KI.Rd w A l.length l) (hn : l.length ≤ 100) (hm : mayI l = true) :
    Calls Try.prog 5 #[.slice A l.length c, .int .u32 fo] w fun e w' => e = .returned (.bool true) ∧ New w w' := by
  have hL := Lib.hid hn
  have hd : decide (100 < l.length) = false := by simpa using hn
  have hM1 := imay_any A l.length c l
  rw [hm] at hM1
  have HM := Lib.hid hM1
  have HI := Lib.hid (in_eq l fo hm)
  have HO := Lib.hid (out_eq l fo hm)
  have hFl := List.length_filter_le (pIn fo) l
  have hGl := List.length_filter_le (pOut fo) l
  clear hM1 hm
  have hl0 := hl
  go_enter Try.func5, Try.ntmps5
  have hr := New.rfl' w
  go_wp2_with (first
    | (go_at_call 10; refine (great_any _ _ _ _).mono ?_; rintro e w1 ⟨rfl, rfl⟩)
    | (go_at_call 21; refine (HM.out _ (hl0.new hr) (by omega)).mono ?_; rintro e w1 ⟨rfl, hb⟩; have hr := hr.call hb; clear hb)
    | (go_at_call 20; refine (iIn_any _ _ _ l _ _ (hl0.new hr) (by omega)).mono ?_; rintro e w2 ⟨v, rfl, hv, hb⟩; rw [HI.out] at hv; obtain ⟨A1, c1, rfl, _, hx⟩ := hv.rd; clear hv; have hr := hr.call hb; clear hb)
    | (go_at_call 23; refine (iWithout_any _ _ _ l _ _ _ [fo] _ ((hl0.new hr).alloc _) (by omega) (Kind.Rd.single (by go_simp) (by go_simp <;> rfl)) (by omega)).mono ?_; rintro e w3 ⟨v, rfl, hv, hb⟩; rw [HO.out] at hv; obtain ⟨A2, c2, rfl, _, hy⟩ := hv.rd; clear hv; have hr := (hr.alloc' _).call hb; have hx := (hx.alloc _).new hb; clear hb))
  have hlw := hl0.new hr
  have hat1 := Lib.hid (fun n hn hp => cntP_at l (pIn fo) n hn hp)
  have hat2 := Lib.hid (fun n hn hp => cntP_at l (pOut fo) n hn hp)
  have hen1 := Lib.hid (cntP_end l (pIn fo))
  have hen2 := Lib.hid (cntP_end l (pOut fo))
  generalize l.filter (pIn fo) = F at *
  generalize l.filter (pOut fo) = G at *
  clear hl hl0
  have hlw0 := hlw
  go_loopw [7, 8, 9] (fun i k n wr => ∃ q : Nat, q ≤ l.length ∧ n = .int .i64 q ∧ i = .int .i64 (cntP (pIn fo) l q : Nat) ∧ k = .int .i64 (cntP (pOut fo) l q : Nat) ∧ New w3 wr) (fun _ _ n _ => l.length - (intOf n).toNat)
  case atStart => exact ⟨0, by omega, rfl, rfl, rfl, New.rfl' w3⟩
  case round =>
    obtain ⟨q, hq, rfl, rfl, rfl, hrr⟩ := hrel
    have hc1 := cntP_le l (pIn fo) q
    have hc2 := cntP_le l (pOut fo) q
    by_cases hlt : q < l.length
    · rcases Bool.eq_false_or_eq_true (l[q].2.1 == fo) with hp | hp
      · obtain ⟨hi, he⟩ := hat1.out q hlt hp
        have hs1 := Lib.hid (cntP_yes l (pIn fo) q hlt hp)
        have hs2 := Lib.hid (cntP_no l (pOut fo) q hlt (by rw [pOut, hp]; rfl))
        have hde : decide (F[cntP (pIn fo) l q] = l[q]) = true := by simpa using he
        clear he
        obtain ⟨bhlw, ohlw, rfl, hbhlw, hchlw⟩ := hlw.2 (by omega)
        have hrhlw : ∀ w', New w3 w' → ∀ k (hk : k < l.length), w'.cell? ⟨bhlw, ohlw + k * 11, none⟩ = (itA l[k])[0]? := fun w' hw k hk => (hw.cell (p := ⟨bhlw, _, none⟩) hbhlw).trans (hchlw k hk 0 (by decide))
        have hshlw : ∀ w', New w3 w' → ∀ k (hk : k < l.length) j, j < 11 → w'.cell? ⟨bhlw, ohlw + k * 11 + j, none⟩ = (itA l[k])[j]? := fun w' hw k hk j hj => (hw.cell (p := ⟨bhlw, _, none⟩) hbhlw).trans (hchlw k hk j hj)
        clear hchlw
        obtain ⟨bhx, ohx, rfl, hbhx, hchx⟩ := hx.2 (by omega)
        have hrhx : ∀ w', New w3 w' → ∀ k (hk : k < F.length), w'.cell? ⟨bhx, ohx + k * 11, none⟩ = (itA F[k])[0]? := fun w' hw k hk => (hw.cell (p := ⟨bhx, _, none⟩) hbhx).trans (hchx k hk 0 (by decide))
        have hshx : ∀ w', New w3 w' → ∀ k (hk : k < F.length) j, j < 11 → w'.cell? ⟨bhx, ohx + k * 11 + j, none⟩ = (itA F[k])[j]? := fun w' hw k hk j hj => (hw.cell (p := ⟨bhx, _, none⟩) hbhx).trans (hchx k hk j hj)
        clear hchx
        generalize cntP (pIn fo) l q = i at *
        generalize cntP (pOut fo) l q = k at *
        go_wp2_with fail
        go_quiet (fail)
        have hr2 : ∀ m, New w3 (wr.drewN m) := fun m => below_drewN hrr m
        go_wp2_with fail
        go_roundw
        case rel => exact ⟨q + 1, by omega, by go_num, by rw [hs1.out]; go_num, by rw [hs2.out], hr2 _⟩
        case measure => simp [intOf]; omega
      · obtain ⟨hi, he⟩ := hat2.out q hlt (by rw [pOut, hp]; rfl)
        have hs1 := Lib.hid (cntP_no l (pIn fo) q hlt hp)
        have hs2 := Lib.hid (cntP_yes l (pOut fo) q hlt (by rw [pOut, hp]; rfl))
        have hde : decide (G[cntP (pOut fo) l q] = l[q]) = true := by simpa using he
        clear he
        obtain ⟨bhlw, ohlw, rfl, hbhlw, hchlw⟩ := hlw.2 (by omega)
        have hrhlw : ∀ w', New w3 w' → ∀ k (hk : k < l.length), w'.cell? ⟨bhlw, ohlw + k * 11, none⟩ = (itA l[k])[0]? := fun w' hw k hk => (hw.cell (p := ⟨bhlw, _, none⟩) hbhlw).trans (hchlw k hk 0 (by decide))
        have hshlw : ∀ w', New w3 w' → ∀ k (hk : k < l.length) j, j < 11 → w'.cell? ⟨bhlw, ohlw + k * 11 + j, none⟩ = (itA l[k])[j]? := fun w' hw k hk j hj => (hw.cell (p := ⟨bhlw, _, none⟩) hbhlw).trans (hchlw k hk j hj)
        clear hchlw
        obtain ⟨bhy, ohy, rfl, hbhy, hchy⟩ := hy.2 (by omega)
        have hrhy : ∀ w', New w3 w' → ∀ k (hk : k < G.length), w'.cell? ⟨bhy, ohy + k * 11, none⟩ = (itA G[k])[0]? := fun w' hw k hk => (hw.cell (p := ⟨bhy, _, none⟩) hbhy).trans (hchy k hk 0 (by decide))
        have hshy : ∀ w', New w3 w' → ∀ k (hk : k < G.length) j, j < 11 → w'.cell? ⟨bhy, ohy + k * 11 + j, none⟩ = (itA G[k])[j]? := fun w' hw k hk j hj => (hw.cell (p := ⟨bhy, _, none⟩) hbhy).trans (hchy k hk j hj)
        clear hchy
        generalize cntP (pIn fo) l q = i at *
        generalize cntP (pOut fo) l q = k at *
        go_wp2_with fail
        go_quiet (fail)
        have hr2 : ∀ m, New w3 (wr.drewN m) := fun m => below_drewN hrr m
        go_wp2_with fail
        go_roundw
        case rel => exact ⟨q + 1, by omega, by go_num, by rw [hs1.out], by rw [hs2.out]; go_num, hr2 _⟩
        case measure => simp [intOf]; omega
    · obtain rfl : q = l.length := by omega
      rw [hen1.out, hen2.out]
      go_wp2_with (first | (go_at_call 11; refine (lives_i _).mono ?_; rintro e w9 ⟨rfl, hb⟩; have hrr := hrr.call hb))
      go_ret
      exact ⟨rfl, hr.call hrr⟩

set_option maxHeartbeats 1600000 in
set_option maxRecDepth 100000 in
theorem parts_i (A : Option Addr) (n c : Nat) (l : List It) (fo : Int) (w : World) (hl : KI.Rd w A n l) (hn : n ≤ 140737488355328) :
    Calls Try.prog 5 #[.slice A n c, .int .u32 fo] w fun e w' => e = .returned (.bool true) ∧ New w w' := by
  obtain rfl : l.length = n := hl.1
  have hle := inI_len2 l fo
  by_cases h1 : 100 < l.length
  · have hd : decide (100 < l.length) = true := by simpa using h1
    have hr := New.rfl' w
    have hi : ((inI l fo).length : Int) ≤ (l.length : Int) := by omega
    go_enter Try.func5, Try.ntmps5
    go_wp2_with (first
      | (go_at_call 10; refine (great_any _ _ _ _).mono ?_; rintro e w1 ⟨rfl, rfl⟩)
      | (go_at_call 20; refine (iIn_any _ _ _ l _ _ (hl.new hr) hn).mono ?_; rintro e w2 ⟨v, rfl, hv, hb⟩; obtain ⟨A1, c1, rfl, _, _⟩ := hv.rd; clear hv; have hr := hr.call hb; clear hb)
      | (go_at_call 11; refine (lives_i _).mono ?_; rintro e w1 ⟨rfl, hb⟩; have hr := hr.call hb))
    go_ret
    exact ⟨rfl, hr⟩
  have hd : decide (100 < l.length) = false := by simpa using h1
  rcases Bool.eq_false_or_eq_true (mayI l) with hm | hm
  · exact parts_ok A c l fo w hl (by omega) hm
  · have hM1 := imay_any A l.length c l
    rw [hm] at hM1
    have HM := Lib.hid hM1
    clear hM1 hm
    have hr := New.rfl' w
    have hi : ((inI l fo).length : Int) ≤ (l.length : Int) := by omega
    go_enter Try.func5, Try.ntmps5
    go_wp2_with (first
      | (go_at_call 10; refine (great_any _ _ _ _).mono ?_; rintro e w1 ⟨rfl, rfl⟩)
      | (go_at_call 21; refine (HM.out _ (hl.new hr) (by omega)).mono ?_; rintro e w1 ⟨rfl, hb⟩; have hr := hr.call hb; clear hb)
      | (go_at_call 20; refine (iIn_any _ _ _ l _ _ (hl.new hr) (by omega)).mono ?_; rintro e w2 ⟨v, rfl, hv, hb⟩; obtain ⟨A1, c1, rfl, _, _⟩ := hv.rd; clear hv; have hr := hr.call hb; clear hb)
      | (go_at_call 11; refine (lives_i _).mono ?_; rintro e w1 ⟨rfl, hb⟩; have hr := hr.call hb))
    go_ret
    exact ⟨rfl, hr⟩
end Go.Proofs.Ytkgebhmlogddcaa
