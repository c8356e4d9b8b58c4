/- Contracts of the layer view: Pending as a plain call; Told. -/
import Derived.Test.YtkgebhmlogddcaaPend4
import Derived.Test.YtkgebhmlogddcaaView6
import Derived.Test.YtkgebhmlogddcaaTell
namespace Go.Proofs.Ytkgebhmlogddcaa
open Go.RowKit Go.Shelf
set_option linter.unusedSimpArgs false
attribute [local go_sem] rowAt_alloc_at rowAt_alloc_past rowOk_alloc_at rowOk_alloc_past rowAt_drew rowOk_drew setRow_alloc_at setRow_alloc_past rowAt_setRow rowAt_setRow_far rowOk_setRow cell_rowOk frozen_rowOk setCell_rowOk setRow_setRow con_fold con_get con_size con_set set_all none8_cells equalIn_con storeCells_con
attribute [local go_sem] it_size it_0 it_1 it_2 it_3 it_4 it_5 it_6 it_7 it_8 it_9 it_10 it_set0 it_set1 it_set2 it_fold it_zero it_eta it_fill run_storeCells_it
attribute [local go_sem] sn_size sn_0 sn_1 sn_set0 sn_set1 sn_fold sn_eta sn_fill run_storeCells_sn eqg_sn eqg_it
attribute [local go_sem high] equalIn_sn equalIn_it
attribute [local go_sem] op_size op_0 op_1 op_2 op_3 op_4 op_5 op_6 op_7 op_8 op_9 op_10 op_11 op_con op_fold op_fold0 op_fillz op_set0 op_set1 op_set2 op_set3 op_ne op_fillC op_eta run_storeCells_op it_extr

theorem vpend_any (A : Option Addr) (c : Nat) (v : List Sn) (B : Option Addr) (d : Nat) (l : List It) (gv : Int) (g0 : 0 ≤ gv) (g1 : gv < 256) (hlv : v.length ≤ 1000) (hll : l.length ≤ 1000) (hso : SortOk l) (w : World) (hv : KS.Rd w A v.length v) (hl : KI.Rd w B l.length l) (hmv : risS 0 v = true) (hml : mayI l = true) :
    Calls Try.prog 45 #[.slice A v.length c, .slice B l.length d, .int .u8 gv] w fun e w' => ∃ u, e = .returned u ∧ KO.Own w' w.heap.size u ((v.filter (goneP l)).map delO ++ ((isort l).filter (newP v)).map (putO v gv)) ∧ New w w' :=
  (callsIn_wide (n := 7)).1 (vpend_in A c v B d l gv g0 g1 hlv hll hso w hv hl hmv hml)

def toldStep (l : List It) (out : List Sn) (op : Opr) : List Sn :=
  if op.1 = 3 then dropS out op.2.2.1 else if (findI l op.2.2.1).isSome = true ∧ (op.1 = 1 ∨ op.1 = 2) then setS out ((findI l op.2.2.1).getD itZ).1 ((findI l op.2.2.1).getD itZ).2.2.1 else out
def toldO (v : List Sn) (l : List It) (ops : List Opr) : List Sn := ops.foldl (toldStep l) v
theorem dropS_len (l : List Sn) (id : Int) : (dropS l id).length ≤ l.length := by
  unfold dropS; split
  · exact List.length_filter_le _ _
  · simp
theorem setS_len (l : List Sn) (id s : Int) : (setS l id s).length ≤ l.length + 1 := by
  unfold setS
  split
  · split
    · omega
    · split
      · simp
      · simp only [List.length_append, List.length_take, List.length_drop, List.length_cons, List.length_nil]; omega
  · simp
theorem toldStep_len (l : List It) (out : List Sn) (op : Opr) : (toldStep l out op).length ≤ out.length + 1 := by
  unfold toldStep
  split
  · have := dropS_len out op.2.2.1; omega
  · split
    · exact setS_len _ _ _
    · omega
theorem toldO_step (v : List Sn) (l : List It) (ops : List Opr) (k : Nat) (hk : k < ops.length) : toldO v l (ops.take (k + 1)) = toldStep l (toldO v l (ops.take k)) ops[k] := by
  unfold toldO
  rw [List.take_succ_eq_append_getElem hk, List.foldl_append]; rfl
theorem toldO_len (v : List Sn) (l : List It) (ops : List Opr) (k : Nat) (hk : k ≤ ops.length) : (toldO v l (ops.take k)).length ≤ v.length + k := by
  induction k with
  | zero => simp [toldO]
  | succ k ih =>
    rw [toldO_step v l ops k (by omega)]
    have := toldStep_len l (toldO v l (ops.take k)) ops[k]
    have := ih (by omega)
    omega
set_option maxHeartbeats 1600000 in
set_option maxRecDepth 100000 in
theorem vtold_any (A : Option Addr) (c : Nat) (v : List Sn) (B : Option Addr) (d : Nat) (l : List It) (O : Option Addr) (oc : Nat) (ops : List Opr) (hlv : v.length + ops.length ≤ 1000) (hll : l.length ≤ 1000) (w : World) (hv : KS.Rd w A v.length v) (hl : KI.Rd w B l.length l) (ho : KO.Rd w O ops.length ops) (hmv : risS 0 v = true) (hml : mayI l = true) :
    Calls Try.prog 44 #[.slice A v.length c, .slice B l.length d, .slice O ops.length oc] w fun e w' => ∃ u, e = .returned u ∧ KS.Own w' w.heap.size u (toldO v l ops) ∧ New w w' := by
  have hA1 := vmay_any A v.length c v
  rw [hmv] at hA1
  have HA := Lib.hid hA1
  have hB1 := imay_any B l.length d l
  rw [hml] at hB1
  have HB := Lib.hid hB1
  clear hA1 hB1
  have hv0 := hv
  have hl0 := hl
  have ho0 := ho
  go_enter Try.func44, Try.ntmps44
  have hwA := fun w' (h : New w w') n hn => rowAt_below h n hn
  have hwO := fun w' (h : New w w') n hn => rowOk_below h n hn
  have hwS := fun w' (h : New w w') n (hn : n < w.heap.size) => eq_true (Nat.lt_of_lt_of_le hn h.size)
  go_wp2_with (first
    | (go_at_call 42; refine (HA.out _ hv (by omega)).mono ?_; rintro e w1 ⟨rfl, hb1⟩)
    | (go_at_call 21; refine (HB.out _ (hl.new hb1) (by omega)).mono ?_; rintro e w2 ⟨rfl, hb⟩; have hb2 := New.call hb1 hb; clear hb)
    | (go_at_call 57; refine (cloneS_any _ _ _ v _ (hv.new hb2) (by omega)).mono ?_; rintro e w3 ⟨u0, rfl, hu0, hb⟩; have hb3 := New.call hb2 hb; have hu3 := hu0.lower hb2.size; clear hb hu0))
  -- LOOP
  clear hv ho hl
  go_loopw [7, 24] (fun u i wr => ∃ k : Nat, k ≤ ops.length ∧ i = .int .i64 k ∧ New w wr ∧ KS.Own wr w.heap.size u (toldO v l (ops.take k))) (fun _ i _ => ops.length - (intOf i).toNat)
  case atStart => exact ⟨0, by omega, rfl, hb3, by simpa [toldO] using hu3⟩
  case round =>
    obtain ⟨k, hk, rfl, hr, hu⟩ := hrel
    by_cases hlt : k < ops.length
    · have hst := toldO_step v l ops k hlt
      have hlen := toldO_len v l ops k (by omega)
      have hF1 := iFind_any B l.length d l ops[k].2.2.1
      have ho := ho0
      obtain ⟨bho, oho, rfl, hbho, hcho⟩ := ho.2 (by omega)
      have hrho : ∀ w', New w w' → ∀ k (hk : k < ops.length), w'.cell? ⟨bho, oho + k * 12, none⟩ = (opA ops[k])[0]? := fun w' hw k hk => (hw.cell (p := ⟨bho, _, none⟩) hbho).trans (hcho k hk 0 (by decide))
      have hsho : ∀ w', New w w' → ∀ k (hk : k < ops.length) j, j < 12 → w'.cell? ⟨bho, oho + k * 12 + j, none⟩ = (opA ops[k])[j]? := fun w' hw k hk j hj => (hw.cell (p := ⟨bho, _, none⟩) hbho).trans (hcho k hk j hj)
      clear hcho
      unfold toldStep at hst
      generalize toldO v l (ops.take k) = L at *
      obtain ⟨Au, cu, rfl, hcu, hRu⟩ := hu.rd
      generalize (findI l ops[k].2.2.1).isSome = it at *
      generalize (findI l ops[k].2.2.1).getD itZ = x at *
      have hro := hrho _ hr k hlt
      have hso := fun w' (h : New w w') j hj => hsho w' h k hlt j hj
      clear hrho hsho
      generalize ops[k] = op at *
      obtain ⟨ok, ocl, oi, ogv, of⟩ := op
      dsimp only at hst hF1
      have HF := Lib.hid hF1
      clear hF1
      by_cases h3 : ok = 3
      · have hst2 := Lib.hid (hst.trans (if_pos h3)); clear hst
        have h3' := Lib.hid h3; clear h3
        have H1 := Lib.hid trivial; have H2 := Lib.hid trivial; have H3 := Lib.hid h3'.out
        go_wp2_with (first
          | (go_at_call 22; refine (HF.out _ (hl0.new (hr.alloc' _)) (by omega)).mono ?_; rintro e w4 ⟨rfl, hb⟩; have hr4 := (hr.alloc' _).call hb; have hA4 := rowAt_below hb wr.heap.size (by simp only [World.size_alloc]; omega); have hO4 := rowOk_below hb wr.heap.size (by simp only [World.size_alloc]; omega); simp only [rowAt_alloc_at _ _ _ _ rfl, rowOk_alloc_at _ _ _ _ rfl] at hA4 hO4; have hz4 : wr.heap.size < w4.heap.size := (by have := hb.size; simp only [World.size_alloc] at this; omega); have hRu4 := (hRu.alloc _).new hb; have hu4 := (hu.alloc _).new hb; have hk1 := H1.out; have hk2 := H2.out; have hk3 := H3.out; clear hb)
          | (go_at_call 41; refine (vdrop_any _ _ _ L _ _ (hRu4.alloc _) (by omega)).mono ?_; rintro e w5 ⟨u5, rfl, hu5, hb⟩; have hr5 := (hr4.alloc' _).call hb; clear hb))
        go_roundw
        case rel => exact ⟨k + 1, by omega, by go_num, hr5, by rw [hst2.out]; exact hu5.lower (by have := hr4.size; simp only [World.size_alloc]; omega)⟩
        case measure => simp [intOf]; omega
      · rw [if_neg h3] at hst
        cases it
        · have hst2 := Lib.hid (hst.trans (if_neg (by simp))); clear hst
          have H1 := Lib.hid trivial; have H2 := Lib.hid trivial; have H3 := Lib.hid h3
          go_wp2_with (first
            | (go_at_call 22; refine (HF.out _ (hl0.new (hr.alloc' _)) (by omega)).mono ?_; rintro e w4 ⟨rfl, hb⟩; have hr4 := (hr.alloc' _).call hb; have hA4 := rowAt_below hb wr.heap.size (by simp only [World.size_alloc]; omega); have hO4 := rowOk_below hb wr.heap.size (by simp only [World.size_alloc]; omega); simp only [rowAt_alloc_at _ _ _ _ rfl, rowOk_alloc_at _ _ _ _ rfl] at hA4 hO4; have hz4 : wr.heap.size < w4.heap.size := (by have := hb.size; simp only [World.size_alloc] at this; omega); have hRu4 := (hRu.alloc _).new hb; have hu4 := (hu.alloc _).new hb; have hk1 := H1.out; have hk2 := H2.out; have hk3 := H3.out; clear hb))
          go_roundw
          case rel => exact ⟨k + 1, by omega, by go_num, hr4.alloc' _, by rw [hst2.out]; exact hu4.alloc _⟩
          case measure => simp [intOf]; omega
        · by_cases h1 : ok = 1
          · have hst2 := Lib.hid (hst.trans (if_pos ⟨rfl, .inl h1⟩)); clear hst
            have h1' := Lib.hid h1; clear h1
            have H1 := Lib.hid h1'.out; have H2 := Lib.hid trivial; have H3 := Lib.hid h3
            go_wp2_with (first
              | (go_at_call 22; refine (HF.out _ (hl0.new (hr.alloc' _)) (by omega)).mono ?_; rintro e w4 ⟨rfl, hb⟩; have hr4 := (hr.alloc' _).call hb; have hA4 := rowAt_below hb wr.heap.size (by simp only [World.size_alloc]; omega); have hO4 := rowOk_below hb wr.heap.size (by simp only [World.size_alloc]; omega); simp only [rowAt_alloc_at _ _ _ _ rfl, rowOk_alloc_at _ _ _ _ rfl] at hA4 hO4; have hz4 : wr.heap.size < w4.heap.size := (by have := hb.size; simp only [World.size_alloc] at this; omega); have hRu4 := (hRu.alloc _).new hb; have hu4 := (hu.alloc _).new hb; have hk1 := H1.out; have hk2 := H2.out; have hk3 := H3.out; clear hb)
              | (go_at_call 40; refine (vset_any _ _ _ L _ _ _ (hRu4.alloc _) (by omega)).mono ?_; rintro e w5 ⟨u5, rfl, hu5, hb⟩; have hr5 := (hr4.alloc' _).call hb; clear hb))
            go_roundw
            case rel => exact ⟨k + 1, by omega, by go_num, hr5, by rw [hst2.out]; exact hu5.lower (by have := hr4.size; simp only [World.size_alloc]; omega)⟩
            case measure => simp [intOf]; omega
          · by_cases h2 : ok = 2
            · have hst2 := Lib.hid (hst.trans (if_pos ⟨rfl, .inr h2⟩)); clear hst
              have h2' := Lib.hid h2; clear h2
              have H1 := Lib.hid h1; have H2 := Lib.hid h2'.out; have H3 := Lib.hid h3
              go_wp2_with (first
                | (go_at_call 22; refine (HF.out _ (hl0.new (hr.alloc' _)) (by omega)).mono ?_; rintro e w4 ⟨rfl, hb⟩; have hr4 := (hr.alloc' _).call hb; have hA4 := rowAt_below hb wr.heap.size (by simp only [World.size_alloc]; omega); have hO4 := rowOk_below hb wr.heap.size (by simp only [World.size_alloc]; omega); simp only [rowAt_alloc_at _ _ _ _ rfl, rowOk_alloc_at _ _ _ _ rfl] at hA4 hO4; have hz4 : wr.heap.size < w4.heap.size := (by have := hb.size; simp only [World.size_alloc] at this; omega); have hRu4 := (hRu.alloc _).new hb; have hu4 := (hu.alloc _).new hb; have hk1 := H1.out; have hk2 := H2.out; have hk3 := H3.out; clear hb)
                | (go_at_call 40; refine (vset_any _ _ _ L _ _ _ (hRu4.alloc _) (by omega)).mono ?_; rintro e w5 ⟨u5, rfl, hu5, hb⟩; have hr5 := (hr4.alloc' _).call hb; clear hb))
              go_roundw
              case rel => exact ⟨k + 1, by omega, by go_num, hr5, by rw [hst2.out]; exact hu5.lower (by have := hr4.size; simp only [World.size_alloc]; omega)⟩
              case measure => simp [intOf]; omega
            · have hst2 := Lib.hid (hst.trans (if_neg (fun h => by rcases h.2 with h | h <;> omega))); clear hst
              have H1 := Lib.hid (show (ok == 1) = false from beq_eq_false_iff_ne.2 h1); have H2 := Lib.hid (show (ok == 2) = false from beq_eq_false_iff_ne.2 h2); have H3 := Lib.hid h3
              go_wp2_with (first
                | (go_at_call 22; refine (HF.out _ (hl0.new (hr.alloc' _)) (by omega)).mono ?_; rintro e w4 ⟨rfl, hb⟩; have hr4 := (hr.alloc' _).call hb; have hA4 := rowAt_below hb wr.heap.size (by simp only [World.size_alloc]; omega); have hO4 := rowOk_below hb wr.heap.size (by simp only [World.size_alloc]; omega); simp only [rowAt_alloc_at _ _ _ _ rfl, rowOk_alloc_at _ _ _ _ rfl] at hA4 hO4; have hz4 : wr.heap.size < w4.heap.size := (by have := hb.size; simp only [World.size_alloc] at this; omega); have hRu4 := (hRu.alloc _).new hb; have hu4 := (hu.alloc _).new hb; have hk1 := H1.out; have hk2 := H2.out; have hk3 := H3.out; clear hb))
              go_roundw
              case rel => exact ⟨k + 1, by omega, by go_num, hr4.alloc' _, by rw [hst2.out]; exact hu4.alloc _⟩
              case measure => simp [intOf]; omega
    · go_wp2_with fail
      rw [List.take_of_length_le (by omega)] at hu
      go_ret
      exact ⟨_, rfl, hu, hr⟩
end Go.Proofs.Ytkgebhmlogddcaa
