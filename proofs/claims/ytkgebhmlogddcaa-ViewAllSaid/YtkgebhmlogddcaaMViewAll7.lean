/- Part 7 of 7 of the proof of ViewAll: VAll, RowViewAll. Conditions: none beyond the given statement's own. -/
import Derived.Test.YtkgebhmlogddcaaMViewAll6
/- The law ViewAll, walked. -/
namespace Go.Proofs.Ytkgebhmlogddcaa
open Go.RowKit
set_option linter.unusedSimpArgs false
attribute [local go_sem] rowAt_alloc_at rowAt_alloc_past rowOk_alloc_at rowOk_alloc_past rowAt_drew rowOk_drew setRow_alloc_at setRow_alloc_past rowAt_setRow rowAt_setRow_far rowOk_setRow cell_rowOk frozen_rowOk setCell_rowOk setRow_setRow con_fold con_get con_size con_set set_all none8_cells equalIn_con storeCells_con
attribute [local go_sem] it_size it_0 it_1 it_2 it_3 it_4 it_5 it_6 it_7 it_8 it_9 it_10 it_set0 it_set1 it_set2 it_fold it_zero it_eta it_fill run_storeCells_it
attribute [local go_sem] sn_size sn_0 sn_1 sn_set0 sn_set1 sn_fold sn_eta sn_fill run_storeCells_sn eqg_sn eqg_it
attribute [local go_sem high] equalIn_sn equalIn_it

set_option maxHeartbeats 1600000 in
set_option maxRecDepth 100000 in
theorem vall_great (A : Option Addr) (n c : Nat) (B : Option Addr) (m d : Nat) (gv : Int) (w : World) (hg : (decide (100 < n) || decide (60 < m) || decide (100 < 0)) = true) :
    Calls Try.prog 9 #[.slice A n c, .slice B m d, .int .u8 gv] w fun e w' => e = .returned (.bool true) ∧ New w w' := by
  go_enter Try.func9, Try.ntmps9
  go_wp2_with (first
    | (go_at_call 37; refine (great20 _ _ _ _ _ _ _ _ _ _).mono ?_; rintro e w1 ⟨rfl, rfl⟩; simp only [hg])
    | (go_at_call 38; refine (lives20 _).mono ?_; rintro e w1 ⟨rfl, hb⟩))
  go_ret
  exact ⟨rfl, hb⟩
set_option maxHeartbeats 1600000 in
set_option maxRecDepth 100000 in
theorem vall_bad1 (A : Option Addr) (n c : Nat) (v : List Sn) (B : Option Addr) (m d : Nat) (gv : Int) (w : World) (hg : (decide (100 < n) || decide (60 < m) || decide (100 < 0)) = false) (hv : KS.Rd w A n v) (hn : n ≤ 1000) (hmv : risS 0 v = false) :
    Calls Try.prog 9 #[.slice A n c, .slice B m d, .int .u8 gv] w fun e w' => e = .returned (.bool true) ∧ New w w' := by
  have hA1 := vmay_any A n c v
  rw [hmv] at hA1
  have HA := Lib.hid hA1
  clear hA1
  go_enter Try.func9, Try.ntmps9
  go_wp2_with (first
    | (go_at_call 37; refine (great20 _ _ _ _ _ _ _ _ _ _).mono ?_; rintro e w1 ⟨rfl, rfl⟩; simp only [hg])
    | (go_at_call 42; refine (HA.out _ hv (by omega)).mono ?_; rintro e w1 ⟨rfl, hb1⟩)
    | (go_at_call 38; refine (lives20 _).mono ?_; rintro e w2 ⟨rfl, hb⟩))
  go_ret
  exact ⟨rfl, hb1.call hb⟩
set_option maxHeartbeats 1600000 in
set_option maxRecDepth 100000 in
theorem vall_bad2 (A : Option Addr) (n c : Nat) (v : List Sn) (B : Option Addr) (m d : Nat) (l : List It) (gv : Int) (w : World) (hg : (decide (100 < n) || decide (60 < m) || decide (100 < 0)) = false) (hv : KS.Rd w A n v) (hl : KI.Rd w B m l) (hPl : PosI l) (hn : n ≤ 1000) (hm : m ≤ 1000) (hmv : risS 0 v = true) (hml : mayI l = false) :
    Calls Try.prog 9 #[.slice A n c, .slice B m d, .int .u8 gv] w fun e w' => e = .returned (.bool true) ∧ New w w' := by
  have hA1 := vmay_any A n c v
  rw [hmv] at hA1
  have HA := Lib.hid hA1
  have hB1 := refmay_any B m d l
  rw [hml] at hB1
  have HB := Lib.hid hB1
  clear hA1 hB1
  go_enter Try.func9, Try.ntmps9
  go_wp2_with (first
    | (go_at_call 37; refine (great20 _ _ _ _ _ _ _ _ _ _).mono ?_; rintro e w1 ⟨rfl, rfl⟩; simp only [hg])
    | (go_at_call 42; refine (HA.out _ hv (by omega)).mono ?_; rintro e w1 ⟨rfl, hb1⟩)
    | (go_at_call 25; refine (HB.out _ (hl.new hb1) (by omega) hPl).mono ?_; rintro e w2 ⟨rfl, hb⟩; have hb2 := hb1.call hb; clear hb)
    | (go_at_call 38; refine (lives20 _).mono ?_; rintro e w3 ⟨rfl, hb⟩))
  go_ret
  exact ⟨rfl, hb2.call hb⟩
set_option maxHeartbeats 3200000 in
set_option maxRecDepth 100000 in
theorem vall_ok (A : Option Addr) (c : Nat) (v : List Sn) (B : Option Addr) (d : Nat) (l : List It) (gv : Int) (w : World) (g0 : 0 ≤ gv) (g1 : gv < 256) (hv : KS.Rd w A v.length v) (hl : KI.Rd w B l.length l) (hPl : PosI l) (hn : v.length ≤ 100) (hmv : risS 0 v = true) (hml : mayI l = true) :
    Calls Try.prog 9 #[.slice A v.length c, .slice B l.length d, .int .u8 gv] w fun e w' => e = .returned (.bool true) ∧ New w w' := by
  have h40 := mayI_len l hml
  have hg : (decide (100 < v.length) || decide (60 < l.length) || decide (100 < 0)) = false := by
    have h1 : decide (100 < v.length) = false := by simp; omega
    have h2 : decide (60 < l.length) = false := by simp; omega
    rw [h1, h2]; rfl
  have hA1 := vmay_any A v.length c v
  rw [hmv] at hA1
  have HA := Lib.hid hA1
  have hB1 := refmay_any B l.length d l
  rw [hml] at hB1
  have HB := Lib.hid hB1
  clear hA1 hB1
  have hTall := told_all v l gv hmv hml
  have hol : ((v.filter (goneP l)).map delO ++ ((isort l).filter (newP v)).map (putO v gv)).length ≤ 140 := by
    have h1 := List.length_filter_le (goneP l) v
    have h2 := List.length_filter_le (newP v) (isort l)
    rw [isort_len] at h2
    simp only [List.length_append, List.length_map]; omega
  have hP1 := fun w hv hl => vpend_any A c v B d l gv g0 g1 (by omega) (by omega) (sortOk_40 l h40) w hv hl hmv hml
  have hTlen : (l.map seenOf).length = l.length := List.length_map ..
  have hP2 : Hid (∀ (A2 : Option Addr) (c2 : Nat) (w : World), KS.Rd w A2 l.length (l.map seenOf) → KI.Rd w B l.length l → Calls Try.prog 45 #[.slice A2 l.length c2, .slice B l.length d, .int .u8 gv] w fun e w' => ∃ A3 c3, e = .returned (.slice A3 0 c3) ∧ New w w') := Lib.hid (fun A2 c2 w ht hl => by
    have h1 := vpend_any A2 c2 (l.map seenOf) B d l gv g0 g1 (by omega) (by omega) (sortOk_40 l h40) w (by rw [hTlen]; exact ht) hl (ris_seen l hml) hml
    rw [pend_none l gv hml, hTlen] at h1
    refine h1.mono ?_
    rintro e w' ⟨u, rfl, hu, hb⟩
    obtain ⟨A3, c3, rfl, _⟩ := hu.form
    exact ⟨A3, c3, rfl, hb⟩)
  generalize (v.filter (goneP l)).map delO ++ ((isort l).filter (newP v)).map (putO v gv) = ops at *
  have hT1 : Hid (∀ (O : Option Addr) (oc : Nat) (w : World), KS.Rd w A v.length v → KI.Rd w B l.length l → KO.Rd w O ops.length ops → Calls Try.prog 44 #[.slice A v.length c, .slice B l.length d, .slice O ops.length oc] w fun e w' => ∃ A2 c2, e = .returned (.slice A2 l.length c2) ∧ KS.Rd w' A2 l.length (l.map seenOf) ∧ New w w') := Lib.hid (fun O oc w hv hl ho => by
    refine (vtold_any A c v B d l O oc ops (by omega) (by omega) w hv hl ho hmv hml).mono ?_
    rintro e w' ⟨u, rfl, hu, hb⟩
    rw [hTall] at hu
    obtain ⟨A2, c2, rfl, _, hr⟩ := hu.rd
    rw [hTlen] at hr ⊢
    exact ⟨A2, c2, rfl, hr, hb⟩)
  have HP1 := Lib.hid hP1
  have hTk : Hid (∀ k (hk : k < l.length) (hk2 : k < (l.map seenOf).length), (l.map seenOf)[k] = (l[k].1, l[k].2.2.1)) := Lib.hid (fun k hk hk2 => by rw [List.getElem_map]; rfl)
  clear hP1 hTall
  generalize l.map seenOf = T at *
  have hv0 := hv
  have hl0 := hl
  go_enter Try.func9, Try.ntmps9
  have hwA := fun w' (h : New w w') n hn => rowAt_below h n hn
  have hwO := fun w' (h : New w w') n hn => rowOk_below h n hn
  have hwS := fun w' (h : New w w') n (hn : n < w.heap.size) => eq_true (Nat.lt_of_lt_of_le hn h.size)
  go_wp2_with (first
    | (go_at_call 37; refine (great20 _ _ _ _ _ _ _ _ _ _).mono ?_; rintro e w1 ⟨rfl, rfl⟩; simp only [hg])
    | (go_at_call 42; refine (HA.out _ hv (by omega)).mono ?_; rintro e w1 ⟨rfl, hb1⟩)
    | (go_at_call 25; refine (HB.out _ (hl.new hb1) (by omega) hPl).mono ?_; rintro e w2 ⟨rfl, hb⟩; have hb2 := hb1.call hb; clear hb)
    | (go_at_call_of 45 A; refine (HP1.out _ (hv0.new hb2) (hl0.new hb2)).mono ?_; rintro e w3 ⟨u, rfl, hu, hb⟩; obtain ⟨Ap, cp, rfl, _, hru⟩ := hu.rd; have hb3 := hb2.call hb; clear hb)
    | (go_at_call 44; refine (hT1.out _ _ _ (hv0.new hb3) (hl0.new hb3) hru).mono ?_; rintro e w4 ⟨At, ct, rfl, hrt, hb⟩; have hb4 := hb3.call hb; clear hb)
    | (go_at_call 45; refine (hP2.out _ _ _ hrt (hl0.new hb4)).mono ?_; rintro e w5 ⟨A3, c3, rfl, hb⟩; have hb5 := hb4.call hb; have hrt5 := hrt.new hb; clear hb))
  go_loopw [8] (fun i wr => ∃ k : Nat, k ≤ l.length ∧ i = .int .i64 (k : Nat) ∧ New w5 wr) (fun i _ => l.length - (intOf i).toNat)
  case atStart => exact ⟨0, Nat.zero_le _, rfl, New.rfl' _⟩
  case round =>
    obtain ⟨k, hk, rfl, hr⟩ := hrel
    have hwr : New w wr := hb5.call hr
    by_cases hlt : k < l.length
    · have hx := hTk.out k hlt (by omega)
      obtain ⟨bt, ot, rfl, hbt, hct⟩ := hrt5.2 (by omega)
      have ht0 : ∀ w', New w5 w' → w'.cell? ⟨bt, ot + k * 2, none⟩ = some (.int .u32 l[k].1) := fun w' hw => by
        have h1 := (hw.cell (p := ⟨bt, _, none⟩) hbt).trans (hct k (by omega) 0 (by decide))
        rw [hx] at h1
        exact h1
      have ht1 : ∀ w', New w5 w' → w'.cell? ⟨bt, ot + k * 2 + 1, none⟩ = some (.int .u64 l[k].2.2.1) := fun w' hw => by
        have h1 := (hw.cell (p := ⟨bt, _, none⟩) hbt).trans (hct k (by omega) 1 (by decide))
        rw [hx] at h1
        exact h1
      clear hx hct
      have hl1 := hl0
      obtain ⟨bhl1, ohl1, rfl, hbhl1, hchl1⟩ := hl1.2 (by omega)
      have hrhl1 : ∀ w', New w w' → ∀ k (hk : k < l.length), w'.cell? ⟨bhl1, ohl1 + k * 11, none⟩ = (itA l[k])[0]? := fun w' hw k hk => (hw.cell (p := ⟨bhl1, _, none⟩) hbhl1).trans (hchl1 k hk 0 (by decide))
      have hshl1 : ∀ w', New w w' → ∀ k (hk : k < l.length) j, j < 11 → w'.cell? ⟨bhl1, ohl1 + k * 11 + j, none⟩ = (itA l[k])[j]? := fun w' hw k hk j hj => (hw.cell (p := ⟨bhl1, _, none⟩) hbhl1).trans (hchl1 k hk j hj)
      clear hchl1
      have hl2 := fun w' (h : New wr w') => hrhl1 w' (hwr.call h) k hlt
      have hl3 := fun w' (h : New wr w') => hshl1 w' (hwr.call h) k hlt 2 (by decide)
      have hr0 := fun w' (h : New wr w') => ht0 w' (hr.call h)
      have hr1 := fun w' (h : New wr w') => ht1 w' (hr.call h)
      clear hrhl1 hshl1 ht0 ht1
      generalize l[k] = x at *
      have hww := New.rfl' wr
      have hwd := New.drew' hww
      have hrd := hr.call hwd
      go_wp2_with fail
      go_quiet (fail)
      go_wp2_with fail
      go_roundw
      case rel => exact ⟨k + 1, by omega, by go_num, ⟨hr.os, hr.tape, hr.output, hr.size, hr.block⟩⟩
      case measure => simp [intOf]; omega
    · go_wp2_with (first
        | (go_at_call 38; refine (lives20 _).mono ?_; rintro e w6 ⟨rfl, hb⟩))
      go_ret
      exact ⟨rfl, hwr.call hb⟩
theorem vall_i (A : Option Addr) (n c : Nat) (v : List Sn) (B : Option Addr) (m d : Nat) (l : List It) (gv : Int) (w : World) (hv : KS.Rd w A n v) (hl : KI.Rd w B m l) (hPl : PosI l) (g0 : 0 ≤ gv) (g1 : gv < 256) :
    Calls Try.prog 9 #[.slice A n c, .slice B m d, .int .u8 gv] w fun e w' => e = .returned (.bool true) ∧ New w w' := by
  cases hg : (decide (100 < n) || decide (60 < m) || decide (100 < 0))
  · have hn : n ≤ 100 ∧ m ≤ 60 := by simp at hg; omega
    cases hmv : risS 0 v
    · exact vall_bad1 A n c v B m d gv w hg hv (by omega) hmv
    cases hml : mayI l
    · exact vall_bad2 A n c v B m d l gv w hg hv hl hPl (by omega) (by omega) hmv hml
    obtain rfl : v.length = n := hv.1
    obtain rfl : l.length = m := hl.1
    exact vall_ok A c v B d l gv w g0 g1 hv hl hPl hn.1 hmv hml
  · exact vall_great A n c B m d gv w hg
end Go.Proofs.Ytkgebhmlogddcaa
/- The row of the law ViewAll: whatever the input, it answers true, and each argument reads as it did. Conditions: none beyond the given statement's own. -/
namespace Go.Proofs.Ytkgebhmlogddcaa.viewAll
open Go.ChangeShapes Go.WideShapes Go.ChangeAt Go.RowKit
open Go.ChangeMaps (open_string shut_string)
set_option linter.constructorNameAsVariable false
set_option maxRecDepth 100000 in
theorem lifted (os : Os) (started : os.Started) (H : Type) (enc : TypeId × Value → H) :
    ReturnsInHanded {} Try.checked os 9 .any (Rows.viewAllSpec.pre6 enc Try.prog Try.f9 Rows.viewAllRow.domain false) (Rows.viewAllSpec.post enc Try.prog Try.f9 false true false false) := by
  refine returnsInHanded_of_change_sized (C := Try.checked) ownK started (by kernel_rfl) Try.func9
    (ChangeSpec.witness6 (enc := enc) (C := Try.checked) false ⟨#[], #[.slice none 0 0, .slice none 0 0, .int .u8 0], []⟩ 8 (by kernel_rfl) (by kernel_rfl) (by kernel_rfl) (by kernel_rfl)) ?_
  intro W base args ds gs before hval0 hW hcnd hsz0 _
  have hlt := hW.lt
  have hsz : (DataW.weightsEach Try.prog (Try.f9.params.toList ++ Rows.viewAllSpec.plain.varTypes Try.prog) (ds ++ gs)).all (· ≤ reachBytes) = true := hsz0
  have hval : ∀ (j : Nat) t v, Try.f9.params[j]? = some t → args[j]? = some v → Value.okWide Try.prog W .any base t v := hval0
  have hW' := hW
  obtain ⟨p, q, hA0, hV, rfl, hfz, hnd⟩ := hW
  have hA : DataW.TrodAll enc Try.prog W 0 (fun _ => true) true Try.f9.params.toList args.toList ds p := hA0
  rw [Try.params9] at hA hval hsz
  obtain ⟨v0, vs0, d0, ds0, p0, q0, hargs, rfl, rfl, h0, r0⟩ := trodAll_cons hA
  obtain ⟨v1, vs1, d1, ds1, p1, q1, rfl, rfl, rfl, h1, r1⟩ := trodAll_cons r0
  obtain ⟨v2, vs2, d2, ds2, p2, q2, rfl, rfl, rfl, h2, r2⟩ := trodAll_cons r1
  obtain ⟨rfl, rfl, rfl⟩ := trodAll_nil r2
  obtain rfl : args = #[v0, v1, v2] := by cases args; simp_all
  obtain ⟨rfl, rfl⟩ := trodVars_none hV
  obtain ⟨A0, n0, c0, l0, rfl, hc0, hl0, ho0, hd0⟩ := open_seens (hval 0 46 v0 rfl rfl) h0
  have hn0 := sized_kind hsz (j := 0) (t := 46) rfl rfl Try.underlying46 (of_decide_eq_true (by kernel_rfl)) hd0
  obtain ⟨A1, n1, c1, l1, rfl, hc1, hl1, ho1, hd1⟩ := open_items (hval 1 22 v1 rfl rfl) h1
  have hn1 := sized_kind hsz (j := 1) (t := 22) rfl rfl Try.underlying22 (of_decide_eq_true (by kernel_rfl)) hd1
  obtain ⟨a2, rfl, rfl, rfl, w2⟩ := open_int Try.underlying5 (hval 2 5 v2 rfl rfl) h2
  have b2 := bounds_u8 w2
  refine (vall_i A0 n0 c0 l0 A1 n1 c1 l1 a2 W hl0 hl1 (fun x hx => (ho1 x hx).pos) b2.1 (by have := b2.2; omega)).mono fun e W' ⟨he, bel⟩ => ?_
  subst he
  have hts : ∀ t ∈ Try.f9.params.toList, Try.prog.readableRec t = true ∧ t < Try.prog.types.size := by
    have h : (Try.f9.params.toList.all fun t => Try.prog.readableRec t && decide (t < Try.prog.types.size)) = true := by kernel_rfl
    intro t ht
    simpa using List.all_eq_true.1 h t ht
  exact ⟨_, rfl, _, _, _, [], _, [], hW', trodAll_mk1 (shut_bool Try.underlying4 _), trodAll_below laidOut bel hts hA0 (fun x hx => hlt x (by simpa using hx)), rfl, bel.frame _, fun h => by cases h⟩
theorem over : Rows.viewAllRow.holds Try.pinned (OpenSpec.ofChange Rows.viewAllSpec) :=
  OpenClaim.holds_of_wide 9 Try.f9 rfl rfl rfl rfl rfl rfl rfl ⟨rfl, rfl, rfl, rfl, rfl⟩ rfl rfl rfl rfl rfl (by kernel_rfl) Try.func9 (by kernel_rfl)
    (of_decide_eq_true (by kernel_rfl)) (by unfold Func.isWrapper; first | (rw [if_pos (by decide +kernel)]; kernel_rfl) | (rw [if_neg (by decide +kernel)]; exact ⟨rfl, rfl⟩))
    (fun os started H enc _ => lifted os started H enc)
theorem proved : Rows.ViewAllSaid := over
#print axioms proved
end Go.Proofs.Ytkgebhmlogddcaa.viewAll
namespace Go.Proofs.Ytkgebhmlogddcaa
/-- The row, under a short name, for the claim. -/
theorem viewAll_holds : Rows.ViewAllSaid := viewAll.proved
end Go.Proofs.Ytkgebhmlogddcaa
