/- The law ClashTold, walked (part 5). -/
import Derived.Test.YtkgebhmlogddcaaTold2
import Derived.Test.YtkgebhmlogddcaaTold3
import Derived.Test.YtkgebhmlogddcaaTold4
import Derived.Test.YtkgebhmlogddcaaTold6
namespace Go.Proofs.Ytkgebhmlogddcaa
open Go.RowKit
set_option linter.unusedSimpArgs false
attribute [local go_sem] rowAt_alloc_at rowAt_alloc_past rowOk_alloc_at rowOk_alloc_past rowAt_drew rowOk_drew setRow_alloc_at setRow_alloc_past rowAt_setRow rowAt_setRow_far rowOk_setRow cell_rowOk frozen_rowOk setCell_rowOk setRow_setRow con_fold con_get con_size con_set set_all none8_cells equalIn_con storeCells_con
attribute [local go_sem] it_size it_0 it_1 it_2 it_3 it_4 it_5 it_6 it_7 it_8 it_9 it_10 it_set0 it_set1 it_set2 it_fold it_zero it_eta it_fill run_storeCells_it
attribute [local go_sem] sn_size sn_0 sn_1 sn_set0 sn_set1 sn_fold sn_eta sn_fill run_storeCells_sn eqg_sn eqg_it
attribute [local go_sem high] equalIn_sn equalIn_it
attribute [local go_sem] op_size op_0 op_1 op_2 op_3 op_4 op_5 op_6 op_7 op_8 op_9 op_10 op_11 op_con op_fold op_eta run_storeCells_op gn_size gn_0 gn_1 gn_2 gn_3 gn_4 gn_5 gn_6 gn_7 gn_8 gn_9 gn_10 gn_fold

theorem told_i (A : Option Addr) (n c : Nat) (l : List It) (fo : Int) (B : Option Addr) (m d : Nat) (v : List Sn) (op : Opr) (g : Gn) (sq : Int) (w : World) (hl : KI.Rd w A n l) (hv : KS.Rd w B m v) (hPl : PosI l) (hPv : PosS v) (hid : 0 ≤ op.2.2.1) (g0 : 0 ≤ op.2.2.2.1) (g1 : op.2.2.2.1 < 256) (s0 : 0 ≤ gnSu g) (s1 : gnSu g < 256) :
    Calls Try.prog 7 #[.slice A n c, .int .u32 fo, .slice B m d, .agg (opA op), .agg (gnA g), .int .u64 sq] w fun e w' => e = .returned (.bool true) ∧ New w w' := by
  by_cases hn : 60 < n
  · exact told_great1 A n c l fo B m d v op g sq w hl hv hn
  by_cases hm : 100 < m
  · exact told_great2 A n c l fo B m d v op g sq w hl hv hn hm
  have hn := Nat.le_of_not_lt hn
  have hm := Nat.le_of_not_lt hm
  cases hml : mayI l
  · exact told_bad1 A n c l fo B m d v op g sq w hl hv hn hm hPl hPv hml
  cases hmv : risS 0 v
  · exact told_bad2 A n c l fo B m d v op g sq w hl hv hn hm hPl hPv hml hmv
  by_cases h : (findS v op.2.2.1).isSome = true ∧ (findS v op.2.2.1).getD 0 = sq
  · exact told_of A n c l fo B m d v op g sq w hl hv hn hm hPl hPv hml hmv h
  obtain ⟨m1, m2, m3⟩ := do_may l fo v op g sq hml hmv hid
  obtain ⟨p1, p2, p3, p4, p5, p6⟩ := told_plain l fo v op g sq hml hmv h
  have hDo := fun (A : Option Addr) (c : Nat) (B : Option Addr) (d : Nat) (w : World) (hl : KI.Rd w A n l) (hv : KS.Rd w B m v) => do_any A n c l fo B m d v op g sq w hl hv hn hm g0 g1 s0 s1
  have hS1 : (doC l fo v op g sq).2.1.length ≤ 101 := by have := hv.1; omega
  have hr := do_range l fo v op g sq
  generalize (doC l fo v op g sq).1 = I at *
  generalize (doC l fo v op g sq).2.1 = S at *
  generalize (doC l fo v op g sq).2.2 = k at *
  rcases hr with rfl | rfl | rfl | rfl | rfl | rfl
  · exact told_zero A n c l fo B m d v op g sq w hl hv hn hm hPl hPv hml hmv h I S hDo m1 m2 hS1 p1 p2 (p6 (.inl rfl)).1 (p6 (.inl rfl)).2
  · exact told_one A n c l fo B m d v op g sq w hl hv hn hm hPl hPv hml hmv h I S hDo m1 m2 hS1 p1 p2 (p6 (.inr rfl)).1 (p6 (.inr rfl)).2
  · by_cases h4 : op.1 = 4
    · exact told_twof A n c l fo B m d v op g sq w hl hv hn hm hPl hPv hml hmv h I S hDo m1 m2 hS1 p1 p2 h4
    · exact told_twon A n c l fo B m d v op g sq w hl hv hn hm hPl hPv hml hmv h I S hDo m1 m2 hS1 p1 p2 (by simpa using h4) ((p5 (.inl rfl)).resolve_left h4)
  · obtain ⟨q1, q2⟩ := p4 rfl
    cases hf : findI I op.2.2.1 with
    | none => exact told_three2 A n c l fo B m d v op g sq w hl hv hn hm hPl hPv hml hmv h I S hDo m1 m2 hS1 p1 p2 hf (by rw [hf] at q1; exact q1.symm)
    | some x => exact told_three1 A n c l fo B m d v op g sq w hl hv hn hm hPl hPv hml hmv h I S hDo m1 m2 hS1 p1 p2 x hf (show op.1 = 2 by rw [hf] at q1; simpa using q1.symm) (q2 (by rw [hf]; rfl))
  · obtain ⟨x, q1, q2, q3⟩ := p3 rfl
    exact told_four A n c l fo B m d v op g sq w hl hv hn hm hPl hPv hml hmv h I S hDo m1 m2 hS1 p1 p2 x q1 q2 q3
  · by_cases h4 : op.1 = 4
    · exact told_fivef A n c l fo B m d v op g sq w hl hv hn hm hPl hPv hml hmv h I S hDo m1 m2 hS1 p1 p2 h4
    · exact told_fiven A n c l fo B m d v op g sq w hl hv hn hm hPl hPv hml hmv h I S hDo m1 m2 hS1 p1 p2 (by simpa using h4) ((p5 (.inr rfl)).resolve_left h4)
end Go.Proofs.Ytkgebhmlogddcaa
