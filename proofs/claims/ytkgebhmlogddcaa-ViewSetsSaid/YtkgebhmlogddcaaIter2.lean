/- slices.AppendSeq over an iterator of items. -/
import Derived.Test.YtkgebhmlogddcaaIter1
namespace Go.Proofs.Ytkgebhmlogddcaa
open Go.RowKit Go.Shelf
set_option linter.unusedSimpArgs false
attribute [local go_sem] Oper.semAt_some
attribute [local go_sem] rowAt_alloc_at rowAt_alloc_past rowOk_alloc_at rowOk_alloc_past rowAt_drew rowOk_drew setRow_alloc_at setRow_alloc_past rowAt_setRow rowAt_setRow_far rowOk_setRow cell_rowOk frozen_rowOk setCell_rowOk setRow_setRow con_fold con_get con_size con_set set_all none8_cells equalIn_con storeCells_con
attribute [local go_sem] it_size it_0 it_1 it_2 it_3 it_4 it_5 it_6 it_7 it_8 it_9 it_10 it_set0 it_set1 it_set2 it_fold it_zero it_eta it_fill run_storeCells_it

/-- what stands in a row of cells stands on, whatever becomes of blocks that are no cells -/
theorem row_kept {W W' : World} {row : Option Nat} {g : Nat} (h : rowOk W g = true) (hg : W.grownBy W' row) (hr : ∀ r, row = some r → ∃ o : Obj, W.heap[r]? = some o ∧ o.isCells = false) : rowOk W' g = true ∧ rowAt W' g = rowAt W g := by
  obtain ⟨t, ht⟩ := rowOk_get W h
  have hne : some g ≠ row := fun e => by
    obtain ⟨o, ho, hc⟩ := hr g e.symm
    rw [ht] at ho; injection ho with ho; subst ho; cases hc
  have hb := hg.block g (rowOk_lt W h) hne
  constructor
  · unfold rowOk; rw [hb]; exact h
  · unfold rowAt; rw [hb]
theorem Kind.Own.keptNC {α : Type} {K : Kind α} {W W' : World} {row : Option Nat} {base : Nat} {v : Value} {l : List α} (h : K.Own W base v l) (hg : W.grownBy W' row) (hr : ∀ r, row = some r → ∃ o : Obj, W.heap[r]? = some o ∧ o.isCells = false) : K.Own W' base v l := by
  rcases h.2 with ⟨rfl, _⟩ | ⟨g, cap, cur, rfl, _, hgc, _⟩
  · exact World.ownsRow.kept h hg (.inl rfl)
  · refine World.ownsRow.kept h hg (.inr fun e => ?_)
    obtain ⟨o, ho, hc⟩ := hr g e.symm
    rw [hgc] at ho; injection ho with ho; subst ho; cases hc
theorem Kind.wpListIn_append1 {α : Type} {K : Kind α} {F : Fence} {n : Nat} {w : World} {base : Nat} {v : Value} {l : List α} {ops : Array Oper} {rest : List Oper} {o : Oper} {a : Act} {Q : Exit → Act → World → Prop} (hgd : o.guard = none) (s x : Operand)
    (ho : o.op = .call { callee := .builtin .append, args := #[s, x], argTypes := #[K.t, K.t] }) (hs : a.eval s = v) (hown : K.Own w base v l)
    (y : α) (g : Nat) (hx : a.eval x = .slice (some ⟨g, 0, none⟩) 1 1) (hr : rowOk w g = true) (hy : rowAt w g = K.enc y)
    (h63 : l.length + 1 ≤ 1048576) (hbytes : K.bytes ≤ 4096) (hbase : base ≤ w.heap.size)
    (h : ∀ v' w', K.Own w' base v' (l ++ [y]) → w.grownBy w' v.ownBlock → wpListIn F n Try.prog ops Q rest (a.put o.dst v') w') : wpListIn F n Try.prog ops Q (o :: rest) a w := by
  refine wpListIn_append_own w hgd s x K.t ho base K.e K.i K.z K.sz K.bytes K.ht K.hi K.hz K.hs K.hb K.hzs K.pos v l.length (K.flat l) hs hown
    ⟨g, 0, none⟩ 1 1 (K.enc y).toList hx (by simp [K.hsz]) ?_ (fun u hu => (Array.all_eq_true_iff_forall_mem.1 (K.one y)) u (by simpa using hu)) (by simp only [maxLen]; omega) ?_ hbase ?_
  · intro j u hu
    have hadd : (⟨g, 0, none⟩ : Addr).add j = ⟨g, j, none⟩ := by unfold Addr.add; split <;> simp_all
    rw [hadd, cell_rowOk w hr, hy]
    simpa using hu
  · have h1 : (l.length + 1) * K.bytes ≤ 1048576 * 4096 := Nat.mul_le_mul h63 hbytes
    omega
  · intro v' w' hv' hg _
    exact h v' w' (by unfold Kind.Own; rw [K.flat_append, K.flat_one, List.length_append]; exact hv') hg
theorem aI_own (Bs base : Nat) : Go.Own (fun (pre : List It) (W : World) => ∃ v, (rowOk W Bs = true ∧ rowAt W Bs = #[v]) ∧ KI.Own W base v pre) := by
  intro pre W W' row hs hg hr
  obtain ⟨v, ⟨h1, h2⟩, h3⟩ := hs
  obtain ⟨k1, k2⟩ := row_kept h1 hg hr
  exact ⟨v, ⟨k1, k2.trans h2⟩, h3.keptNC hg hr⟩
set_option maxRecDepth 100000 in
set_option maxHeartbeats 2000000 in
theorem aseq_in (F : Fence) (n : Nat) (hf : F.fn 98) (hro : F.round = none) (hn : 3 ≤ n) (gf : Nat) (lb : Array Value) (hFg : F.fn gf) (eg : ∀ args w, (callFunc gf args).run Try.prog w = .ok (.enter gf args) w) (zs : List It) (hlen : zs.length ≤ 1000) (w : World)
    (hseq : SeqStopsK F (n - 1) Try.prog gf lb (fun x : It => #[Value.agg (itA x)]) (Below w.heap.size) (fun ys => ys = zs) (fun pre => pre <+: zs) zs.length w) :
    CallsIn F n Try.prog 98 #[.slice none 0 0, .func (.func gf) #[] lb] w fun e W' => ∃ v, e = .returned v ∧ KI.Own W' w.heap.size v zs ∧ New w W' := by
  have h1 : 1 ≤ n := by omega
  refine callsIn_of_wp_marks Try.func98 rfl hf ?_ hro
  simp only [Try.ntmps98, List.size_toArray, List.length_cons, List.length_nil, Nat.reduceAdd, Nat.reduceSub, Array.replicate_succ, Array.replicate_zero, List.push_toArray, List.append_toArray, List.nil_append, List.cons_append]
  gi_wp2
  refine wpIn_rangeFunc_ownH hro h1 (gf := gf) (lb := lb) rfl hFg eg hseq belowK_t (belowK_b (by simp)) ((New.rfl' w).alloc' _) (fun _ => rfl)
    (fun pre W => (∃ v, (rowOk W w.heap.size = true ∧ rowAt W w.heap.size = #[v]) ∧ KI.Own W (w.heap.size + 1) v pre) ∧ Below w.heap.size w W)
    (fun _ _ _ => False)
    (OwnFrom.and (Own.from (aI_own _ _) _) (ownFrom_below (Nat.le_refl _) (by simp)))
    (fun _ _ _ _ _ hs _ _ => hs)
    ⟨⟨_, ⟨rowOk_alloc_at w _ _ _ rfl, rowAt_alloc_at w _ _ _ rfl⟩, Kind.Own.nil⟩, (New.rfl' w).alloc' _⟩
    (fun x a' W => ∃ Bx, w.heap.size < Bx ∧ rowOk W Bx = true ∧ rowAt W Bx = itA x ∧ a' = { tmps := #[.slice none 0 0, .func (.func gf) #[] lb, .pointer (some ⟨w.heap.size, 0, none⟩), undef, .slice none 0 0, .pointer (some ⟨Bx, 0, none⟩), .func (.func gf) #[] lb, .agg (itA x), undef, undef, undef, undef, undef], defers := [] })
    (fun x a' _ X Y row hs hg hr => by obtain ⟨Bx, h1, h2, h3, h4⟩ := hs; obtain ⟨k1, k2⟩ := row_kept h2 hg (fun r e => (hr r e).2); exact ⟨Bx, h1, k1, k2.trans h3, h4⟩)
    ?assign ?body ?done ?stop
  case assign =>
    rintro l pre x W K ⟨⟨v, ⟨hb1, hb2⟩, hv⟩, hB⟩ hK
    have hlt := rowOk_lt W hb1
    gi_wp2
    exact hK _ _ ((KeepsOthers.alloc _ _).from _) ((Below.refl _ W).alloc hB.size _) ⟨⟨v, ⟨by rw [rowOk_alloc_past W _ _ hlt]; exact hb1, by rw [rowAt_alloc_past W _ _ hlt]; exact hb2⟩, hv.alloc _⟩, hB.alloc hB.size _⟩ ⟨W.heap.size, hlt, rowOk_alloc_at W _ _ _ rfl, rowAt_alloc_at W _ _ _ rfl, rfl⟩
  case body =>
    rintro l pre x a' W hl ⟨r, hr⟩ ⟨⟨v, ⟨hb1, hb2⟩, hv⟩, hB⟩ ⟨Bx, hBx, hx1, hx2, rfl⟩ hlt
    have hlt1 := rowOk_lt W hb1
    have hlt2 := rowOk_lt W hx1
    have hpl : pre.length < zs.length := hlt
    have hne : v.ownBlock ≠ some w.heap.size := fun e => by have := (World.ownsRow.lt hv _ e).1; omega
    gi_wp2_with (gi_at_builtin; refine Kind.wpListIn_append1 rfl _ _ rfl rfl (hv.alloc _) x W.heap.size rfl (rowOk_alloc_at W _ _ _ rfl) (rowAt_alloc_at W _ _ _ rfl) (by omega) KI_b (by simp only [World.size_alloc]; omega) ?_; intro v' w1 hv1 hg1; obtain ⟨A1, c1, rfl, _⟩ := hv1.form; have hk1 := (hg1.block w.heap.size (by simp only [World.size_alloc]; omega) (fun e => hne e.symm)); have hok1 : rowOk w1 w.heap.size = true := (by unfold rowOk; rw [hk1]; exact (rowOk_alloc_past W _ _ hlt1).trans hb1); have hra1 : rowAt w1 w.heap.size = #[v] := (by unfold rowAt; rw [hk1]; exact (rowAt_alloc_past W _ _ hlt1).trans hb2))
    have hg1 : (W.alloc (Obj.cells (itA x) 28)).grownBy w1 v.ownBlock := hg1
    have hv1 : KI.Own w1 (w.heap.size + 1) (.slice A1 (pre.length + 1) c1) (pre ++ [x]) := by have := hv1; rw [List.length_append] at this; exact this
    have hsz1 : W.heap.size + 1 ≤ w1.heap.size := by have := hg1.size; simpa using this
    have hBW1 : Below w.heap.size W w1 := Below.grown ((Below.refl _ W).alloc hB.size _) hg1 (by have := hB.size; simp only [World.size_alloc]; omega) (fun k e => by have := (World.ownsRow.lt hv _ e).1; omega)
    have hBW2 := below_setRow hBW1 w.heap.size #[Value.slice A1 (pre.length + 1) c1] (Nat.le_refl _)
    refine ⟨⟨by rw [size_setRow']; omega, fun k o hBk hk hc => ?_⟩, hBW2, ⟨_, ⟨by rw [rowOk_setRow]; exact hok1, rowAt_setRow w1 _ _ hok1⟩, World.ownsRow.kept hv1 (grown_setRow w1 w.heap.size _) (.inr fun e => by have := (World.ownsRow.lt hv1 _ e).1; omega)⟩, hB.trans hBW2⟩
    have hklt : k < W.heap.size := (Array.getElem?_eq_some_iff.1 hk).1
    simp only [World.size_alloc] at hBk
    rw [setRow_other w1 _ _ _ (by omega), hg1.block k (by simp only [World.size_alloc]; omega) (fun e => ?_), Below.heap_alloc W _ k hklt]
    · exact hk
    · rcases hv.2 with ⟨rfl, _⟩ | ⟨g, cap, cur, rfl, _, hgc, _⟩
      · cases e
      · injection e with e
        have e : k = g := e
        subst e
        rw [hgc] at hk; injection hk with hk; subst hk; cases hc
  case done =>
    rintro D ys W hD rfl ⟨⟨v, ⟨hb1, hb2⟩, hv⟩, hB⟩ hK
    gi_wp2
    refine ⟨by simp, .inl ⟨_, _, rfl, run_takeDeferred hK, ?_⟩⟩
    exact ⟨_, results_tmp rfl _ _ _, v, rfl, (hv.keptNC (grownBy_putObj' _ D _) (fun r e => by cases e; exact ⟨_, hK, rfl⟩)).lower (by omega), hB.trans (belowK_b (w := w) (Nat.le_refl _) W D _ _ (by simp at hD; omega) hK rfl rfl)⟩
  case stop =>
    rintro D c pre W _ _ h _
    exact h.elim
end Go.Proofs.Ytkgebhmlogddcaa
