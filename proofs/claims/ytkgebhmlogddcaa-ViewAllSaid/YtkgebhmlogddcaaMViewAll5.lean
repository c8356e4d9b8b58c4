/- Part 5 of 7 of the proof of ViewAll: Gone, Iter2, Iter3, Iter4, HeldIn, Fresh, Make, AppA, Pend4, Tell, VTold. Conditions: none beyond the given statement's own. -/
import Derived.Test.YtkgebhmlogddcaaMViewAll4
import Derived.Stop.RegionWithIn
import Derived.Lib.MinMax
/- An iterator of the layer view: what the view has and no item is. -/
namespace Go.Proofs.Ytkgebhmlogddcaa
open Go.RowKit Go.Shelf
set_option linter.unusedSimpArgs false
attribute [local go_sem] Oper.semAt_some
attribute [local go_sem] rowAt_alloc_at rowAt_alloc_past rowOk_alloc_at rowOk_alloc_past rowAt_drew rowOk_drew setRow_alloc_at setRow_alloc_past rowAt_setRow rowAt_setRow_far rowOk_setRow cell_rowOk frozen_rowOk setCell_rowOk setRow_setRow con_fold con_get con_size con_set set_all none8_cells equalIn_con storeCells_con
attribute [local go_sem] it_size it_0 it_1 it_2 it_3 it_4 it_5 it_6 it_7 it_8 it_9 it_10 it_set0 it_set1 it_set2 it_fold it_zero it_eta it_fill run_storeCells_it
attribute [local go_sem] sn_size sn_0 sn_1 sn_set0 sn_set1 sn_fold sn_eta sn_fill run_storeCells_sn eqg_sn eqg_it
attribute [local go_sem high] equalIn_sn equalIn_it
attribute [local go_sem] op_size op_0 op_1 op_2 op_3 op_4 op_5 op_6 op_7 op_8 op_9 op_10 op_11 op_con op_fold op_fold0 op_fillz op_set0 op_set1 op_set2 op_set3 op_ne op_fillC op_eta run_storeCells_op it_extr

/-- what a round keeps: all that was there ahead, and some blocks more -/
def KpL (n₀ : Nat) (bs : List Nat) (W W' : World) : Prop := Below n₀ W W' ∧ ∀ b ∈ bs, W'.heap[b]? = W.heap[b]?
theorem KpL.t {n₀ : Nat} {bs : List Nat} {A B C : World} (h : KpL n₀ bs A B) (k : KpL n₀ bs B C) : KpL n₀ bs A C := ⟨h.1.trans k.1, fun b hb => (k.2 b hb).trans (h.2 b hb)⟩
theorem KpL.refl (n₀ : Nat) (bs : List Nat) (W : World) : KpL n₀ bs W W := ⟨Below.refl _ _, fun _ _ => rfl⟩
theorem KpL.row {n₀ : Nat} {bs : List Nat} {A B : World} (h : KpL n₀ bs A B) {g : Nat} (hg : g ∈ bs) (hok : rowOk A g = true) : rowOk B g = true ∧ rowAt B g = rowAt A g := by
  constructor
  · unfold rowOk; rw [h.2 g hg]; exact hok
  · unfold rowAt; rw [h.2 g hg]
theorem KpL.new {n₀ : Nat} {bs : List Nat} {A B C : World} (h : KpL n₀ bs A B) (k : New B C) (hn : n₀ ≤ B.heap.size) (hbs : ∀ b ∈ bs, b < B.heap.size) : KpL n₀ bs A C := h.t ⟨k.mono hn, fun b hb => k.block b (hbs b hb)⟩
theorem mf_len {α β : Type} (f : α → β) (p : α → Bool) (l : List α) (k : Nat) (hk : k < l.length) (h : p l[k] = true) : (((l.take k).filter p).map f).length < ((l.filter p).map f).length := by
  have e : l = l.take k ++ l[k] :: l.drop (k + 1) := by simp
  conv => rhs; rw [e]
  rw [List.length_map, List.length_map, List.filter_append, List.length_append, List.filter_cons, if_pos h, List.length_cons]; omega
theorem mf_pre {α β : Type} (f : α → β) (p : α → Bool) (l : List α) (k : Nat) : ((l.take k).filter p).map f <+: (l.filter p).map f := by
  refine ⟨((l.drop k).filter p).map f, ?_⟩
  rw [← List.map_append, ← List.filter_append, List.take_append_drop]
theorem abides_new {J : List Opr → World → Prop} {B : Nat} (hJ : AbidesFrom B J) {pre : List Opr} {W W' : World} (h : J pre W) (hb : New W W') : J pre W' :=
  hJ _ _ _ none h ⟨hb.os, hb.tape, hb.output, hb.size, fun k hk _ => hb.block k hk⟩ (fun r e => by cases e)

set_option maxRecDepth 100000 in
set_option maxHeartbeats 2000000 in
theorem gone1_in (n : Nat) (hn : 1 ≤ n) (ll Bv Bl n₀ : Nat) (A : Option Addr) (c : Nat) (v : List Sn) (B : Option Addr) (d : Nat) (l : List It) (hlv : v.length ≤ 1000) (hll : l.length ≤ 1000) (J Jx : List Opr → World → Prop) (W w0 : World) (hJ : AbidesFrom W.heap.size J)
    (hY : ∀ pre x W1, J pre W1 → pre.length < ((v.filter (goneP l)).map delO).length → YieldAt Fence.wide (n - 1) Try.prog ll #[.agg (opA x)] W1 fun e W' =>
      (e = .returned (.bool true) ∧ J (pre ++ [x]) W' ∧ KpL n₀ [Bl] W1 W') ∨ (e = .returned (.bool false) ∧ Jx (pre ++ [x]) W'))
    (hBv : rowAt W Bv = #[.slice A v.length c]) (hokv : rowOk W Bv = true) (hBl : rowAt W Bl = #[.slice B l.length d]) (hokl : rowOk W Bl = true) (hv : KS.Rd w0 A v.length v) (hl : KI.Rd w0 B l.length l) (hn0 : w0.heap.size ≤ n₀) (h0W : New w0 W) (hnW : n₀ ≤ W.heap.size) (h0 : J [] W) :
    CallsIn Fence.wide n Try.prog 82 #[.func (.yield ll) #[] #[], .pointer (some ⟨Bv, 0, none⟩), .pointer (some ⟨Bl, 0, none⟩)] W fun e W' => (∃ v, e = .returned v) ∧
      ((∃ ys, ys = (v.filter (goneP l)).map delO ∧ J ys W') ∨ (∃ pre, pre <+: (v.filter (goneP l)).map delO ∧ Jx pre W')) := by
  have hBlt := rowOk_lt W hokv
  have hLlt := rowOk_lt W hokl
  refine callsIn_of_wp Try.func82 rfl trivial ?_ rfl
  simp only [Try.ntmps82, List.size_toArray, List.length_cons, List.length_nil, Nat.reduceAdd, Nat.reduceSub, Array.replicate_succ, Array.replicate_zero, List.push_toArray, List.append_toArray, List.nil_append, List.cons_append]
  gi_wp2
  gi_loopw [10] (fun i wr => ∃ k : Nat, k ≤ v.length ∧ i = .int .i64 k ∧ J (((v.take k).filter (goneP l)).map delO) wr ∧ KpL n₀ [Bl] W wr ∧ W.heap.size ≤ wr.heap.size) (fun i _ => v.length - (intOf i).toNat)
  case atStart => exact ⟨0, Nat.zero_le _, rfl, h0, KpL.refl _ _ _, Nat.le_refl _⟩
  case round =>
    obtain ⟨k, hk, rfl, hJs, hnx, hsz⟩ := hrel
    have hnw : New w0 wr := h0W.trans (hnx.1.mono hn0)
    obtain ⟨hk1, hk2⟩ := hnx.row (by simp) hokl
    rw [hBl] at hk2
    have hLl2 : Bl < wr.heap.size := rowOk_lt wr hk1
    by_cases hlt : k < v.length
    · have hst := map_filter_step delO (goneP l) v k hlt
      have hgp : goneP l v[k] = !(findI l v[k].1).isSome := rfl
      have hlen1 := mf_len delO (goneP l) v k hlt
      have hpre1 := mf_pre delO (goneP l) v (k + 1)
      have hC1 := iFind_any B l.length d l v[k].1
      rw [hgp] at hst hlen1
      generalize (findI l v[k].1).isSome = it at *
      generalize (findI l v[k].1).getD itZ = xx at *
      obtain ⟨bhv, ohv, rfl, hbhv, hchv⟩ := hv.2 (by omega)
      have hrhv : ∀ w', New w0 w' → ∀ k (hk : k < v.length), w'.cell? ⟨bhv, ohv + k * 2, none⟩ = (snA v[k])[0]? := fun w' hw k hk => (hw.cell (p := ⟨bhv, _, none⟩) hbhv).trans (hchv k hk 0 (by decide))
      have hshv : ∀ w', New w0 w' → ∀ k (hk : k < v.length) j, j < 2 → w'.cell? ⟨bhv, ohv + k * 2 + j, none⟩ = (snA v[k])[j]? := fun w' hw k hk j hj => (hw.cell (p := ⟨bhv, _, none⟩) hbhv).trans (hchv k hk j hj)
      clear hchv
      have hl2 := hl.new (hnw.alloc' (Obj.cells (snA v[k]) 68))
      have hHC := Lib.hid hC1
      have hst2 := Lib.hid hst
      have hlen2 := Lib.hid hlen1
      have hpre2 := Lib.hid hpre1
      clear hgp hst hlen1 hpre1 hC1
      cases it
      · gi_wp2_with (refine ⟨trivial, ?_⟩; gi_at_call 22; refine (callsIn_wide.2 (hHC.out _ hl2 (by omega))).mono ?_; rintro e w1 ⟨rfl, hb⟩; have hA1 := rowAt_below hb wr.heap.size (by simp); have hO1 := rowOk_below hb wr.heap.size (by simp); simp only [rowAt_alloc_at _ _ _ _ rfl, rowOk_alloc_at _ _ _ _ rfl] at hA1 hO1; have hz1 : wr.heap.size < w1.heap.size := (by have := hb.size; simp only [World.size_alloc] at this; omega); have hr1 : New wr (w1.alloc (Obj.cells (itA xx) 28)) := (((New.rfl' wr).alloc' (Obj.cells (snA v[k]) 68)).call hb).alloc' (Obj.cells (itA xx) 28); obtain ⟨fn, tmps, assign, body, hy, hR⟩ := hY _ (delO v[k]) _ (abides_new hJ hJs hr1) (hlen2.out rfl); simp only [delO] at hy)
        refine hR.mono ?_
        rintro e W3 (⟨rfl, hJ3, hk3⟩ | ⟨rfl, hJx3⟩)
        · gi_wp2
          go_roundw
          case rel => exact ⟨k + 1, by omega, by simp, by rw [hst2.out]; exact hJ3, (hnx.new hr1 (Nat.le_trans hnW hsz) (by simpa using hLl2)).t hk3, Nat.le_trans hsz (Nat.le_trans hr1.size hk3.1.size)⟩
          case measure => simp [intOf]; omega
        · gi_wp2
          refine bodyPost_ret (results_none rfl _ _ _) rfl ?_
          exact ⟨⟨_, rfl⟩, .inr ⟨_, by have := hpre2.out; rw [hst2.out] at this; exact this, hJx3⟩⟩
      · gi_wp2_with (refine ⟨trivial, ?_⟩; gi_at_call 22; refine (callsIn_wide.2 (hHC.out _ hl2 (by omega))).mono ?_; rintro e w1 ⟨rfl, hb⟩; have hA1 := rowAt_below hb wr.heap.size (by simp); have hO1 := rowOk_below hb wr.heap.size (by simp); simp only [rowAt_alloc_at _ _ _ _ rfl, rowOk_alloc_at _ _ _ _ rfl] at hA1 hO1; have hz1 : wr.heap.size < w1.heap.size := (by have := hb.size; simp only [World.size_alloc] at this; omega); have hr1 : New wr (w1.alloc (Obj.cells (itA xx) 28)) := (((New.rfl' wr).alloc' (Obj.cells (snA v[k]) 68)).call hb).alloc' (Obj.cells (itA xx) 28))
        refine ⟨fun _ h => (by cases h), ?_⟩
        gi_wp2
        go_roundw
        case rel => exact ⟨k + 1, by omega, by simp, by rw [hst2.out]; simpa using abides_new hJ hJs hr1, hnx.new hr1 (Nat.le_trans hnW hsz) (by simpa using hLl2), Nat.le_trans hsz hr1.size⟩
        case measure => simp [intOf]; omega
    · gi_wp2
      go_end0
      rw [List.take_of_length_le (by omega)] at hJs
      exact ⟨⟨_, rfl⟩, .inl ⟨_, rfl, hJs⟩⟩
end Go.Proofs.Ytkgebhmlogddcaa
/- slices.AppendSeq over an iterator of items. -/
namespace Go.Proofs.Ytkgebhmlogddcaa
open Go.RowKit Go.Shelf
set_option linter.unusedSimpArgs false
attribute [local go_sem] Oper.semAt_some
attribute [local go_sem] rowAt_alloc_at rowAt_alloc_past rowOk_alloc_at rowOk_alloc_past rowAt_drew rowOk_drew setRow_alloc_at setRow_alloc_past rowAt_setRow rowAt_setRow_far rowOk_setRow cell_rowOk frozen_rowOk setCell_rowOk setRow_setRow con_fold con_get con_size con_set set_all none8_cells equalIn_con storeCells_con
attribute [local go_sem] it_size it_0 it_1 it_2 it_3 it_4 it_5 it_6 it_7 it_8 it_9 it_10 it_set0 it_set1 it_set2 it_fold it_zero it_eta it_fill run_storeCells_it

/-- what stands in a row of cells stands on, whatever becomes of blocks that are no cells -/
theorem row_kept {W W' : World} {row : Option Nat} {g : Nat} (h : rowOk W g = true) (hg : W.grownBy W' row) (hr : ∀ r, row = some r → ∃ o : Obj, W.heap[r]? = some o ∧ o.isCells = false) : rowOk W' g = true ∧ rowAt W' g = rowAt W g := by
  obtain ⟨t, ht⟩ := rowOk_get W h
  have hne : some g ≠ row := fun e => by
    obtain ⟨o, ho, hc⟩ := hr g e.symm
    rw [ht] at ho; injection ho with ho; subst ho; cases hc
  have hb := hg.block g (rowOk_lt W h) hne
  constructor
  · unfold rowOk; rw [hb]; exact h
  · unfold rowAt; rw [hb]
theorem Kind.Own.keptNC {α : Type} {K : Kind α} {W W' : World} {row : Option Nat} {base : Nat} {v : Value} {l : List α} (h : K.Own W base v l) (hg : W.grownBy W' row) (hr : ∀ r, row = some r → ∃ o : Obj, W.heap[r]? = some o ∧ o.isCells = false) : K.Own W' base v l := by
  rcases h.2 with ⟨rfl, _⟩ | ⟨g, cap, cur, rfl, _, hgc, _⟩
  · exact World.ownsRow.kept h hg (.inl rfl)
  · refine World.ownsRow.kept h hg (.inr fun e => ?_)
    obtain ⟨o, ho, hc⟩ := hr g e.symm
    rw [hgc] at ho; injection ho with ho; subst ho; cases hc
theorem Kind.wpListIn_append1 {α : Type} {K : Kind α} {F : Fence} {n : Nat} {w : World} {base : Nat} {v : Value} {l : List α} {ops : Array Oper} {rest : List Oper} {o : Oper} {a : Act} {Q : Exit → Act → World → Prop} (hgd : o.guard = none) (s x : Operand)
    (ho : o.op = .call { callee := .builtin .append, args := #[s, x], argTypes := #[K.t, K.t] }) (hs : a.eval s = v) (hown : K.Own w base v l)
    (y : α) (g : Nat) (hx : a.eval x = .slice (some ⟨g, 0, none⟩) 1 1) (hr : rowOk w g = true) (hy : rowAt w g = K.enc y)
    (h63 : l.length + 1 ≤ 1048576) (hbytes : K.bytes ≤ 4096) (hbase : base ≤ w.heap.size)
    (h : ∀ v' w', K.Own w' base v' (l ++ [y]) → w.grownBy w' v.ownBlock → wpListIn F n Try.prog ops Q rest (a.put o.dst v') w') : wpListIn F n Try.prog ops Q (o :: rest) a w := by
  refine wpListIn_append_own w hgd s x K.t ho base K.e K.i K.z K.sz K.bytes K.ht K.hi K.hz K.hs K.hb K.hzs K.pos v l.length (K.flat l) hs hown
    ⟨g, 0, none⟩ 1 1 (K.enc y).toList hx (by simp [K.hsz]) ?_ (fun u hu => (Array.all_eq_true_iff_forall_mem.1 (K.one y)) u (by simpa using hu)) (by simp only [maxLen]; omega) ?_ hbase ?_
  · intro j u hu
    have hadd : (⟨g, 0, none⟩ : Addr).add j = ⟨g, j, none⟩ := by unfold Addr.add; split <;> simp_all
    rw [hadd, cell_rowOk w hr, hy]
    simpa using hu
  · have h1 : (l.length + 1) * K.bytes ≤ 1048576 * 4096 := Nat.mul_le_mul h63 hbytes
    omega
  · intro v' w' hv' hg _
    exact h v' w' (by unfold Kind.Own; rw [K.flat_append, K.flat_one, List.length_append]; exact hv') hg
theorem aI_own (Bs base : Nat) : Go.Own (fun (pre : List It) (W : World) => ∃ v, (rowOk W Bs = true ∧ rowAt W Bs = #[v]) ∧ KI.Own W base v pre) := by
  intro pre W W' row hs hg hr
  obtain ⟨v, ⟨h1, h2⟩, h3⟩ := hs
  obtain ⟨k1, k2⟩ := row_kept h1 hg hr
  exact ⟨v, ⟨k1, k2.trans h2⟩, h3.keptNC hg hr⟩
set_option maxRecDepth 100000 in
set_option maxHeartbeats 2000000 in
theorem aseq_in (F : Fence) (n : Nat) (hf : F.fn 98) (hro : F.round = none) (hn : 3 ≤ n) (gf : Nat) (lb : Array Value) (hFg : F.fn gf) (eg : ∀ args w, (callFunc gf args).run Try.prog w = .ok (.enter gf args) w) (zs : List It) (hlen : zs.length ≤ 1000) (w : World)
    (hseq : SeqStopsK F (n - 1) Try.prog gf lb (fun x : It => #[Value.agg (itA x)]) (Below w.heap.size) (fun ys => ys = zs) (fun pre => pre <+: zs) zs.length w) :
    CallsIn F n Try.prog 98 #[.slice none 0 0, .func (.func gf) #[] lb] w fun e W' => ∃ v, e = .returned v ∧ KI.Own W' w.heap.size v zs ∧ New w W' := by
  have h1 : 1 ≤ n := by omega
  refine callsIn_of_wp_marks Try.func98 rfl hf ?_ hro
  simp only [Try.ntmps98, List.size_toArray, List.length_cons, List.length_nil, Nat.reduceAdd, Nat.reduceSub, Array.replicate_succ, Array.replicate_zero, List.push_toArray, List.append_toArray, List.nil_append, List.cons_append]
  gi_wp2
  refine wpIn_rangeFunc_ownH hro h1 (gf := gf) (lb := lb) rfl hFg eg hseq belowK_t (belowK_b (by simp)) ((New.rfl' w).alloc' _) (fun _ => rfl)
    (fun pre W => (∃ v, (rowOk W w.heap.size = true ∧ rowAt W w.heap.size = #[v]) ∧ KI.Own W (w.heap.size + 1) v pre) ∧ Below w.heap.size w W)
    (fun _ _ _ => False)
    (OwnFrom.and (Own.from (aI_own _ _) _) (ownFrom_below (Nat.le_refl _) (by simp)))
    (fun _ _ _ _ _ hs _ _ => hs)
    ⟨⟨_, ⟨rowOk_alloc_at w _ _ _ rfl, rowAt_alloc_at w _ _ _ rfl⟩, Kind.Own.nil⟩, (New.rfl' w).alloc' _⟩
    (fun x a' W => ∃ Bx, w.heap.size < Bx ∧ rowOk W Bx = true ∧ rowAt W Bx = itA x ∧ a' = { tmps := #[.slice none 0 0, .func (.func gf) #[] lb, .pointer (some ⟨w.heap.size, 0, none⟩), undef, .slice none 0 0, .pointer (some ⟨Bx, 0, none⟩), .func (.func gf) #[] lb, .agg (itA x), undef, undef, undef, undef, undef], defers := [] })
    (fun x a' _ X Y row hs hg hr => by obtain ⟨Bx, h1, h2, h3, h4⟩ := hs; obtain ⟨k1, k2⟩ := row_kept h2 hg (fun r e => (hr r e).2); exact ⟨Bx, h1, k1, k2.trans h3, h4⟩)
    ?assign ?body ?done ?stop
  case assign =>
    rintro l pre x W K ⟨⟨v, ⟨hb1, hb2⟩, hv⟩, hB⟩ hK
    have hlt := rowOk_lt W hb1
    gi_wp2
    exact hK _ _ ((KeepsOthers.alloc _ _).from _) ((Below.refl _ W).alloc hB.size _) ⟨⟨v, ⟨by rw [rowOk_alloc_past W _ _ hlt]; exact hb1, by rw [rowAt_alloc_past W _ _ hlt]; exact hb2⟩, hv.alloc _⟩, hB.alloc hB.size _⟩ ⟨W.heap.size, hlt, rowOk_alloc_at W _ _ _ rfl, rowAt_alloc_at W _ _ _ rfl, rfl⟩
  case body =>
    rintro l pre x a' W hl ⟨r, hr⟩ ⟨⟨v, ⟨hb1, hb2⟩, hv⟩, hB⟩ ⟨Bx, hBx, hx1, hx2, rfl⟩ hlt
    have hlt1 := rowOk_lt W hb1
    have hlt2 := rowOk_lt W hx1
    have hpl : pre.length < zs.length := hlt
    have hne : v.ownBlock ≠ some w.heap.size := fun e => by have := (World.ownsRow.lt hv _ e).1; omega
    gi_wp2_with (gi_at_builtin; refine Kind.wpListIn_append1 rfl _ _ rfl rfl (hv.alloc _) x W.heap.size rfl (rowOk_alloc_at W _ _ _ rfl) (rowAt_alloc_at W _ _ _ rfl) (by omega) KI_b (by simp only [World.size_alloc]; omega) ?_; intro v' w1 hv1 hg1; obtain ⟨A1, c1, rfl, _⟩ := hv1.form; have hk1 := (hg1.block w.heap.size (by simp only [World.size_alloc]; omega) (fun e => hne e.symm)); have hok1 : rowOk w1 w.heap.size = true := (by unfold rowOk; rw [hk1]; exact (rowOk_alloc_past W _ _ hlt1).trans hb1); have hra1 : rowAt w1 w.heap.size = #[v] := (by unfold rowAt; rw [hk1]; exact (rowAt_alloc_past W _ _ hlt1).trans hb2))
    have hg1 : (W.alloc (Obj.cells (itA x) 28)).grownBy w1 v.ownBlock := hg1
    have hv1 : KI.Own w1 (w.heap.size + 1) (.slice A1 (pre.length + 1) c1) (pre ++ [x]) := by have := hv1; rw [List.length_append] at this; exact this
    have hsz1 : W.heap.size + 1 ≤ w1.heap.size := by have := hg1.size; simpa using this
    have hBW1 : Below w.heap.size W w1 := Below.grown ((Below.refl _ W).alloc hB.size _) hg1 (by have := hB.size; simp only [World.size_alloc]; omega) (fun k e => by have := (World.ownsRow.lt hv _ e).1; omega)
    have hBW2 := below_setRow hBW1 w.heap.size #[Value.slice A1 (pre.length + 1) c1] (Nat.le_refl _)
    refine ⟨⟨by rw [size_setRow']; omega, fun k o hBk hk hc => ?_⟩, hBW2, ⟨_, ⟨by rw [rowOk_setRow]; exact hok1, rowAt_setRow w1 _ _ hok1⟩, World.ownsRow.kept hv1 (grown_setRow w1 w.heap.size _) (.inr fun e => by have := (World.ownsRow.lt hv1 _ e).1; omega)⟩, hB.trans hBW2⟩
    have hklt : k < W.heap.size := (Array.getElem?_eq_some_iff.1 hk).1
    simp only [World.size_alloc] at hBk
    rw [setRow_other w1 _ _ _ (by omega), hg1.block k (by simp only [World.size_alloc]; omega) (fun e => ?_), Below.heap_alloc W _ k hklt]
    · exact hk
    · rcases hv.2 with ⟨rfl, _⟩ | ⟨g, cap, cur, rfl, _, hgc, _⟩
      · cases e
      · injection e with e
        have e : k = g := e
        subst e
        rw [hgc] at hk; injection hk with hk; subst hk; cases hc
  case done =>
    rintro D ys W hD rfl ⟨⟨v, ⟨hb1, hb2⟩, hv⟩, hB⟩ hK
    gi_wp2
    refine ⟨by simp, .inl ⟨_, _, rfl, run_takeDeferred hK, ?_⟩⟩
    exact ⟨_, results_tmp rfl _ _ _, v, rfl, (hv.keptNC (grownBy_putObj' _ D _) (fun r e => by cases e; exact ⟨_, hK, rfl⟩)).lower (by omega), hB.trans (belowK_b (w := w) (Nat.le_refl _) W D _ _ (by simp at hD; omega) hK rfl rfl)⟩
  case stop =>
    rintro D c pre W _ _ h _
    exact h.elim
end Go.Proofs.Ytkgebhmlogddcaa
/- slices.Values, Collect, SortStableFunc (fewer than 20), SortedStableFunc at items. -/
namespace Go.Proofs.Ytkgebhmlogddcaa
open Go.RowKit Go.Shelf
set_option linter.unusedSimpArgs false
attribute [local go_sem] rowAt_alloc_at rowAt_alloc_past rowOk_alloc_at rowOk_alloc_past rowAt_drew rowOk_drew setRow_alloc_at setRow_alloc_past rowAt_setRow rowAt_setRow_far rowOk_setRow cell_rowOk frozen_rowOk setCell_rowOk setRow_setRow con_fold con_get con_size con_set set_all none8_cells equalIn_con storeCells_con
attribute [local go_sem] it_size it_0 it_1 it_2 it_3 it_4 it_5 it_6 it_7 it_8 it_9 it_10 it_set0 it_set1 it_set2 it_fold it_zero it_eta it_fill run_storeCells_it

set_option maxHeartbeats 400000 in
theorem values_any (A : Option Addr) (n c : Nat) (w : World) :
    Calls Try.prog 84 #[.slice A n c] w fun e w' => e = .returned (.func (.func 95) #[] #[.pointer (some ⟨w.heap.size, 0, none⟩)]) ∧ w' = w.alloc (Obj.cells #[.slice A n c] 22) := by
  go_enter Try.func84, Try.ntmps84
  go_wp2_with fail
  go_ret
  exact ⟨rfl, rfl⟩
theorem aseqv_any (A : Option Addr) (c Bs : Nat) (zs : List It) (hlen : zs.length ≤ 1000) (w : World) (hB : rowAt w Bs = #[.slice A zs.length c]) (hok : rowOk w Bs = true) (hz : KI.Rd w A zs.length zs) :
    Calls Try.prog 98 #[.slice none 0 0, .func (.func 95) #[] #[.pointer (some ⟨Bs, 0, none⟩)]] w fun e W' => ∃ v, e = .returned v ∧ KI.Own W' w.heap.size v zs ∧ New w W' := by
  refine (callsIn_wide (n := 5)).1 ?_
  refine aseq_in _ 5 trivial rfl (by omega) _ _ trivial (enters_of Try.func95 (by kernel_rfl) rfl) zs hlen w ?_
  intro l J Jx W hW hJ _ hY h0
  have hlt := rowOk_lt w hok
  exact ivals_in _ _ trivial rfl (by omega) l Bs w.heap.size A c zs hlen J Jx W w hJ hY (by rw [rowAt_below hW Bs hlt]; exact hB) (by rw [rowOk_below hW Bs hlt]; exact hok) hz (Nat.le_refl _) hW hW.size h0
set_option maxHeartbeats 400000 in
theorem collect_any (A : Option Addr) (c Bs : Nat) (zs : List It) (hlen : zs.length ≤ 1000) (w : World) (hB : rowAt w Bs = #[.slice A zs.length c]) (hok : rowOk w Bs = true) (hz : KI.Rd w A zs.length zs) :
    Calls Try.prog 93 #[.func (.func 95) #[] #[.pointer (some ⟨Bs, 0, none⟩)]] w fun e W' => ∃ v, e = .returned v ∧ KI.Own W' w.heap.size v zs ∧ New w W' := by
  go_enter Try.func93, Try.ntmps93
  go_wp2_with (first
    | (go_at_call 98; refine (aseqv_any A c Bs zs hlen _ hB hok hz).mono ?_; rintro e w1 ⟨v, rfl, hv, hb⟩))
  go_ret
  exact ⟨_, rfl, hv, hb⟩
set_option maxHeartbeats 400000 in
theorem inssort_nil (w : World) : Calls Try.prog 100 #[.slice none 0 0, .int .i64 0, .int .i64 0, .func (.func 85) #[] #[]] w fun e w' => e = .returned (.tuple #[]) ∧ w' = w := by
  go_enter Try.func100, Try.ntmps100
  go_wp2_with fail
  go_loopw [8] (fun i wr => i = .int .i64 1 ∧ wr = w) (fun _ _ => 0)
  case atStart => exact ⟨rfl, rfl⟩
  case round =>
    obtain ⟨rfl, rfl⟩ := hrel
    go_wp2_with fail
    go_end0
    exact ⟨rfl, rfl⟩
theorem inssort_all (v : Value) (l : List It) (w : World) (base : Nat) (h : KI.Own w base v l) (hn : l.length ≤ 1000) :
    Calls Try.prog 100 #[v, .int .i64 0, .int .i64 (l.length : Nat), .func (.func 85) #[] #[]] w fun e w' => e = .returned (.tuple #[]) ∧ KI.Own w' base v (isort l) ∧ w.grownBy w' v.ownBlock := by
  have hs : sortSeg l 0 l.length = isort l := by simp [sortSeg]
  obtain ⟨A, c, rfl, hc⟩ := h.form
  rcases Nat.eq_zero_or_pos l.length with h0 | h0
  · have hl : l = [] := List.eq_nil_of_length_eq_zero h0
    subst hl
    rcases h.2 with ⟨hv, _⟩ | ⟨g, cap, cur, hv, _⟩
    · injection hv with e1 e2 e3
      subst e1; subst e3
      refine (inssort_nil w).mono ?_
      rintro e w' ⟨rfl, rfl⟩
      exact ⟨rfl, h, World.grownBy.refl _ _⟩
    · injection hv with e1 e2 e3
      subst e1; subst e3
      have := inssort_any [] 0 0 g c w base h (Nat.le_refl _) (Nat.le_refl _) (by simp)
      rw [show sortSeg [] 0 0 = isort [] from rfl] at this
      exact this
  · obtain ⟨g, rfl, _⟩ := h.spotK h0
    have := inssort_any l 0 l.length g c w base h (Nat.zero_le _) (Nat.le_refl _) hn
    rw [hs] at this
    exact this
set_option maxHeartbeats 400000 in
theorem stable_small (v : Value) (l : List It) (w : World) (base : Nat) (h : KI.Own w base v l) (hn : l.length < 20) :
    Calls Try.prog 99 #[v, .int .i64 (l.length : Nat), .func (.func 85) #[] #[]] w fun e w' => e = .returned (.tuple #[]) ∧ KI.Own w' base v (isort l) ∧ w.grownBy w' v.ownBlock := by
  have h1 : ¬ (20 : Int) ≤ (l.length : Int) := by omega
  have h2 : ¬ (20 : Int) < (l.length : Int) := by omega
  have HS := Lib.hid (inssort_all v l w base h (by omega))
  go_enter Try.func99, Try.ntmps99
  go_wp2_with fail
  go_loopw [7, 8] (fun a b wr => a = .int .i64 0 ∧ b = .int .i64 20 ∧ wr = w) (fun _ _ _ => 0)
  case atStart => exact ⟨rfl, rfl, rfl⟩
  case round =>
    obtain ⟨rfl, rfl, rfl⟩ := hrel
    go_wp2_with (first
      | (go_at_call 100; refine HS.out.mono ?_; rintro e w1 ⟨rfl, hv1, hg1⟩))
    go_loopw [6] (fun s wr => s = .int .i64 20 ∧ wr = w1) (fun _ _ => 0)
    case atStart => exact ⟨rfl, rfl⟩
    case round =>
      obtain ⟨rfl, rfl⟩ := hrel
      go_wp2_with fail
      go_end0
      exact ⟨rfl, hv1, hg1⟩
/-- the contract of the stable sort, at a list -/
def SortOk (l : List It) : Prop := ∀ (v : Value) (w : World) (base : Nat), KI.Own w base v l →
  Calls Try.prog 99 #[v, .int .i64 (l.length : Nat), .func (.func 85) #[] #[]] w fun e w' => e = .returned (.tuple #[]) ∧ KI.Own w' base v (isort l) ∧ w.grownBy w' v.ownBlock
theorem sortOk_small (l : List It) (hn : l.length < 20) : SortOk l := fun v w base h => stable_small v l w base h hn
end Go.Proofs.Ytkgebhmlogddcaa
/- SortStableFunc, SortedStableFunc at items (fewer than 20); view.only, view.fresh. -/
namespace Go.Proofs.Ytkgebhmlogddcaa
open Go.RowKit Go.Shelf
set_option linter.unusedSimpArgs false
attribute [local go_sem] rowAt_alloc_at rowAt_alloc_past rowOk_alloc_at rowOk_alloc_past rowAt_drew rowOk_drew setRow_alloc_at setRow_alloc_past rowAt_setRow rowAt_setRow_far rowOk_setRow cell_rowOk frozen_rowOk setCell_rowOk setRow_setRow con_fold con_get con_size con_set set_all none8_cells equalIn_con storeCells_con
attribute [local go_sem] it_size it_0 it_1 it_2 it_3 it_4 it_5 it_6 it_7 it_8 it_9 it_10 it_set0 it_set1 it_set2 it_fold it_zero it_eta it_fill run_storeCells_it

set_option maxHeartbeats 400000 in
theorem sortst_any (v : Value) (l : List It) (w : World) (base : Nat) (h : KI.Own w base v l) (hn : SortOk l) :
    Calls Try.prog 94 #[v, .func (.func 85) #[] #[]] w fun e w' => e = .returned (.tuple #[]) ∧ KI.Own w' base v (isort l) ∧ w.grownBy w' v.ownBlock := by
  have HS := Lib.hid (hn v w base h)
  obtain ⟨A, c, rfl, hc⟩ := h.form
  go_enter Try.func94, Try.ntmps94
  go_wp2_with (first
    | (go_at_call 99; refine HS.out.mono ?_; rintro e w1 ⟨rfl, hv1, hg1⟩))
  go_end0
  exact ⟨rfl, hv1, hg1⟩
set_option maxHeartbeats 400000 in
theorem sorted_any (A : Option Addr) (c Bs : Nat) (zs : List It) (hlen : zs.length ≤ 1000) (hso : SortOk zs) (w : World) (hB : rowAt w Bs = #[.slice A zs.length c]) (hok : rowOk w Bs = true) (hz : KI.Rd w A zs.length zs) :
    Calls Try.prog 83 #[.func (.func 95) #[] #[.pointer (some ⟨Bs, 0, none⟩)], .func (.func 85) #[] #[]] w fun e W' => ∃ v, e = .returned v ∧ KI.Own W' w.heap.size v (isort zs) ∧ New w W' := by
  go_enter Try.func83, Try.ntmps83
  go_wp2_with (first
    | (go_at_call 93; refine (collect_any A c Bs zs hlen _ hB hok hz).mono ?_; rintro e w1 ⟨v, rfl, hv, hb⟩)
    | (go_at_call 94; refine (sortst_any v zs _ _ hv hso).mono ?_; rintro e w2 ⟨rfl, hv2, hg⟩; have hb2 := Kind.Own.grown hb hv hg))
  go_ret
  exact ⟨_, rfl, hv2, hb2⟩

theorem only_byte (m : Int) (p : Nat) (m0 : 0 ≤ m) (m1 : m < 256) (hp : p < 8) : (bits BinOp.and IntKind.u8 m (2 ^ p % 256) == 0) = !bit m p := by
  have h := byte_bit m.toNat (by omega) p hp
  rw [show ((m.toNat : Nat) : Int) = m from by omega] at h
  have h2 : (bits BinOp.and IntKind.u8 m (2 ^ p % 256) != 0) = bit m p := h
  rw [← h2]; simp [bne]
set_option maxHeartbeats 800000 in
theorem vonly_any (f : Con) (gi : Int) (w : World) (g0 : 0 ≤ gi) (g1 : gi < 256) :
    Calls Try.prog 88 #[.agg (con f), .int .u8 gi] w fun e w' => e = .returned (.agg (con (mg none8 f gi false 0))) ∧ Below w.heap.size w w' := by
  generalize hM0 : mg none8 f gi false 0 = M
  have HM := Lib.hid hM0
  clear hM0
  go_enter Try.func88, Try.ntmps88
  go_wp2
  go_loopw [6] (fun i wr => ∃ k : Nat, k ≤ 8 ∧ i = .int .i64 k ∧ wr = (w.alloc (Obj.cells (con (stage k M f)) 26)).alloc (Obj.cells (con none8) 26)) (fun i _ => 8 - (intOf i).toNat)
  case atStart => exact ⟨0, by omega, rfl, by rw [stage_zero]⟩
  case round =>
    obtain ⟨k, hk, rfl, rfl⟩ := hrel
    by_cases hlt : k < 8
    · have HN := Lib.hid (stage_succ M f k hlt)
      have HC := Lib.hid (stage_get M f k hlt)
      have HG := Lib.hid (show M[k] = _ from by rw [← HM.out, mg_get _ _ _ _ _ _ hlt, mg1])
      have hbb := only_byte gi k g0 g1 hlt
      generalize hS0 : stage k M f = S at *
      have HS := Lib.hid hS0
      clear hS0
      rcases Bool.eq_false_or_eq_true (bit gi k) with hb | hb
      all_goals
        rw [hb] at hbb
        simp only [Bool.not_true, Bool.not_false] at hbb
        go_wp2_with fail
        go_roundw
        case rel => exact ⟨k + 1, by omega, by go_num, by rw [HN.out, HG.out, hb]; first | rfl | (simp only [if_true]; rw [set_same _ _ _ _ HC.out]) | (simp only [Bool.false_eq_true, if_false, Bool.and_false, Bool.false_and]; simp [none8])⟩
        case measure => simp [intOf]; omega
    · rw [show stage k M f = M from by obtain rfl : k = 8 := by omega
                                       exact stage_eight _ _]
      go_wp2
      first
      | exact bodyPost_ret (results_con rfl _ _ (w.heap.size + 1) M rfl (by simp [go_sem]) (by simp [go_sem])) rfl ⟨rfl, ((New.rfl' w).alloc' _).alloc' _⟩
      | (go_ret; exact ⟨rfl, ((New.rfl' w).alloc' _).alloc' _⟩)
end Go.Proofs.Ytkgebhmlogddcaa
/- Regions that draw, inside a fence: what reads no more than S tells may come first. -/
namespace Go.Proofs.Ytkgebhmlogddcaa
open Go
section
variable {F : Fence} {n : Nat} {P : Program} {ops : Array Oper} {Q : Exit → Act → World → Prop} {md : Region.Mode} {S : World → Prop}

/-- carried out, and in every world of S it yields v, calls nothing and leaves the world -/
def Tells (P : Program) (ops : Array Oper) (S : World → Prop) (o : Oper) (v : Value) (a : Act) : Prop :=
  Region.wanted o (yielded ops a.tmps) = true ∧ ∀ w, S w → (execOp a.eval o).run P w = .ok (.value v) w ∧ o.about P w a.eval = none

/-- every order, with S behind every step but those of B -/
def anyS (F : Fence) (n : Nat) (P : Program) (md : Region.Mode) (ops : Array Oper) (Q : Exit → Act → World → Prop) (S : World → Prop) (B : List Nat) : Nat → Array Bool → Act → World → Prop
  | 0, listed, a, w => Region.ready md ops listed = [] ∧ Q .normal a w
  | fuel + 1, listed, a, w =>
    (Region.ready md ops listed = [] → Q .normal a w) ∧
    ∀ i ∈ Region.ready md ops listed, wpOpIn F n P ops Q i (fun a' w' => (B.contains i = false → S w') ∧ anyS F n P md ops Q S B fuel (listed.setIfInBounds i true) a' w') a w

theorem any_of_S {B : List Nat} : ∀ (fuel : Nat) (listed : Array Bool) (a : Act) (w : World), anyS F n P md ops Q S B fuel listed a w → wpAnyIn F n P md ops Q fuel listed a w
  | 0, _, _, _, h => h
  | fuel + 1, _, _, _, h => ⟨h.1, fun i hi => wpOpIn_mono (fun a' w' h' => any_of_S fuel _ a' w' h'.2) (h.2 i hi)⟩

/-- as long as i has not come, none of B may come: each waits for i or for one of B -/
def blocks (md : Region.Mode) (ops : Array Oper) (listed : Array Bool) (i : Nat) (B : List Nat) : Prop :=
  ∀ j ∈ B, listed.getD j true = false ∧ ∃ oj, ops[j]? = some oj ∧ ∃ e ∈ oj.after, Region.binds md e = true ∧ (e.on = i ∨ e.on ∈ B)
def blocksB (md : Region.Mode) (ops : Array Oper) (listed : Array Bool) (i : Nat) (B : List Nat) : Bool :=
  B.all fun j => listed.getD j true == false && (match ops[j]? with | none => false | some oj => oj.after.any fun e => Region.binds md e && (e.on == i || B.contains e.on))
theorem blocks_of {listed : Array Bool} {i : Nat} {B : List Nat} (h : blocksB md ops listed i B = true) : blocks md ops listed i B := by
  intro j hj
  have h1 := List.all_eq_true.1 h j hj
  rw [Bool.and_eq_true] at h1
  refine ⟨by simpa using h1.1, ?_⟩
  cases ho : ops[j]? with
  | none => rw [ho] at h1; cases h1.2
  | some oj =>
    rw [ho] at h1
    obtain ⟨e, he, h2⟩ := Array.any_eq_true'.1 h1.2
    rw [Bool.and_eq_true, Bool.or_eq_true] at h2
    exact ⟨oj, rfl, e, he, h2.1, by simpa using h2.2⟩
theorem blocks_not {listed : Array Bool} {i j : Nat} {B : List Nat} (h : blocks md ops listed i B) (hi : listed.getD i true = false) (hj : j ∈ Region.ready md ops listed) : j ∉ B := by
  intro hb
  obtain ⟨_, oj, hoj, e, he, hbd, hon⟩ := h j hb
  obtain ⟨_, oj', hoj', hall⟩ := mem_ready.1 hj
  rw [hoj] at hoj'; cases hoj'
  have h1 := hall e he hbd
  have h2 : listed.getD e.on true = false := by
    rcases hon with h | h'
    · rw [h]; exact hi
    · exact (h _ h').1
  rcases Nat.lt_or_ge e.on listed.size with h' | h'
  · simp [h'] at h1 h2; rw [h2] at h1; cases h1
  · simp [Array.getElem?_eq_none h'] at h1
theorem blocks_set {listed : Array Bool} {i j : Nat} {B : List Nat} (h : blocks md ops listed i B) (hj : j ∉ B) : blocks md ops (listed.setIfInBounds j true) i B := fun k hk =>
  by
  have hne : j ≠ k := fun e => hj (by rw [e]; exact hk)
  exact ⟨by rw [getD_set_ne true hne]; exact (h k hk).1, (h k hk).2⟩

theorem tells_op {i : Nat} {o : Oper} {v : Value} {a : Act} (hro : F.round = none) (hi : ops[i]? = some o) (hy : Tells P ops S o v a) {K : Act → World → Prop} {w : World} (hS : S w) (h : K (a.put o.dst v) w) : wpOpIn F n P ops Q i K a w := by
  unfold Go.wpOpIn
  obtain ⟨hv, hb⟩ := hy.2 w hS
  simp only [hi, hy.1, if_true, Oper.wpIn, hro, Oper.semAt_none, hv, Oper.uponIn]
  exact ⟨fun f hf => by rw [hb] at hf; (cases hf), h⟩

theorem tells_put {j : Nat} {oi oj : Oper} {v : Value} (hro : F.round = none) (hj : ops[j]? = some oj) (hap : oi.apart ops oj = true)
    (hsi : ∀ cs b, oi.op ≠ .select cs b) (hsj : ∀ cs b, oj.op ≠ .select cs b) (hQ : ∀ c a w, Q (.panic c) (a.put oi.dst v) w → Q (.panic c) a w) {K : Act → World → Prop} {a : Act} {w : World}
    (hy : Tells P ops S oi v a) (h : wpOpIn F n P ops Q j K (a.put oi.dst v) w) : wpOpIn F n P ops Q j (fun a' w' => Tells P ops S oi v a' ∧ K (a'.put oi.dst v) w') a w := by
  obtain ⟨h1, h2, h3⟩ := Oper.apart_spec hap
  have kq : ∀ (a : Act), Tells P ops S oi v a → ∀ u, Tells P ops S oi v (a.put oj.dst u) := fun a hy u => ⟨by rw [wanted_put oi a oj.dst u h3]; exact hy.1, fun w hS => by rw [execOp_put oi hsi a oj.dst u h3, about_put oi w a oj.dst u h3]; exact hy.2 w hS⟩
  have kp := kq a hy
  have cm : ∀ u, (a.put oi.dst v).put oj.dst u = (a.put oj.dst u).put oi.dst v := fun u => (Act.put_comm a v u h2)
  unfold wpOpIn at *
  simp only [hj] at *
  rw [wanted_put oj a oi.dst v h1, about_put oj w a oi.dst v h1] at h
  by_cases hw : Region.wanted oj (yielded ops a.tmps) = true
  · simp only [hw, if_true] at h ⊢
    unfold Oper.wpIn at *
    rw [about_put oj w a oi.dst v h1, hro, Oper.semAt_none, execOp_put oj hsj a oi.dst v h1] at h
    refine ⟨h.1, ?_⟩
    replace h := h.2
    rw [hro, Oper.semAt_none]
    generalize (execOp a.eval oj).run P w = r at *
    cases r with
    | ok x w' =>
      cases x <;> simp only [Oper.uponIn] at h ⊢
      case value u => exact ⟨kp u, cm u ▸ h⟩
      case skip => exact ⟨kp _, cm _ ▸ h⟩
      case defer d =>
        refine ⟨kq { a with defers := d :: a.defers } ⟨hy.1, hy.2⟩ undef, ?_⟩
        rw [← Act.put_comm _ v undef h2, ← Act.put_defers]
        exact h
      case enter f args => exact ⟨h.1, CallsIn.mono h.2 fun e w'' he => by cases e <;> first | exact ⟨kp _, cm _ ▸ he⟩ | exact hQ _ _ _ he | exact he⟩
      case row row args => exact ⟨h.1, RowsIn.mono h.2 fun u w'' he => ⟨kp u, cm u ▸ he⟩⟩
      case round l f tmps assign body => exact ⟨h.1, RoundIn.mono h.2 fun e w'' he => by cases e <;> first | exact ⟨kp _, cm _ ▸ he⟩ | exact hQ _ _ _ he | exact he⟩
    | halt x w' =>
      cases x <;> simp only [Oper.uponIn] at h ⊢
      case panic u => exact hQ _ _ _ h
  · simp only [hw] at h ⊢
    exact ⟨h.1, kp _, cm _ ▸ h.2⟩

theorem anyS_first {E B : List Nat} (hE : ∀ j ∈ E, j ∈ B) {i : Nat} {oi : Oper} {v : Value} (hro : F.round = none) (hi : ops[i]? = some oi) (hsel : ∀ (j : Nat) (o : Oper) cs b, ops[j]? = some o → o.op ≠ .select cs b)
    (hQ : ∀ c a w, Q (.panic c) (a.put oi.dst v) w → Q (.panic c) a w) : ∀ (fuel : Nat) (listed : Array Bool) (a : Act) (w : World),
      (∀ j oj, ops[j]? = some oj → j ≠ i → listed.getD j true = false → (∀ e ∈ oj.after, Region.binds md e = true → e.on ≠ i) → oi.apart ops oj = true) →
      i ∈ Region.ready md ops listed → blocks md ops listed i B → Tells P ops S oi v a → S w → anyS F n P md ops Q S E fuel (listed.setIfInBounds i true) (a.put oi.dst v) w → anyS F n P md ops Q S E (fuel + 1) listed a w
  | 0, listed, a, w, _, hr, _, hy, hS, H => by
    refine ⟨fun h => (by rw [h] at hr; cases hr), fun j hj => ?_⟩
    rcases Nat.decEq j i with hji | rfl
    · have := ready_mono hj hji
      rw [H.1] at this; cases this
    · exact tells_op hro hi hy hS ⟨fun _ => hS, H⟩
  | fuel + 1, listed, a, w, hfree, hr, hbl, hy, hS, H => by
    refine ⟨fun h => (by rw [h] at hr; cases hr), fun j hj => ?_⟩
    rcases Nat.decEq j i with hji | rfl
    · have hnB := blocks_not hbl (mem_ready.1 hr).1 hj
      have hnC : E.contains j = false := by simpa using fun h => hnB (hE j h)
      obtain ⟨hjun, oj, hoj, hall⟩ := mem_ready.1 hj
      have hnot : ∀ e ∈ oj.after, Region.binds md e = true → e.on ≠ i := fun e he hb heq => by
        have h1 := hall e he hb
        have h0 := (mem_ready.1 hr).1
        rw [heq] at h1
        rcases Nat.lt_or_ge i listed.size with h' | h'
        · simp [h'] at h0 h1; rw [h0] at h1; cases h1
        · simp [Array.getElem?_eq_none h'] at h1
      refine wpOpIn_mono (fun a' w' h3 => ⟨h3.2.1, anyS_first hE hro hi hsel hQ fuel (listed.setIfInBounds j true) a' w' ?_ (ready_mono hr (Ne.symm hji)) (blocks_set hbl hnB) h3.1 (h3.2.1 hnC) ?_⟩)
        (tells_put hro hoj (hfree j oj hoj hji hjun hnot) (fun cs b => hsel i oi cs b hi) (fun cs b => hsel j oj cs b hoj) hQ hy (H.2 j (ready_mono hj hji)))
      · intro k ok hk hki hun hno
        refine hfree k ok hk hki ?_ hno
        rcases Nat.decEq j k with hjk | rfl
        · rw [getD_set_ne true hjk] at hun; exact hun
        · exact hjun
      · rw [Array.setIfInBounds_comm _ _ hji]; exact h3.2.2
    · exact tells_op hro hi hy hS ⟨fun _ => hS, H⟩

theorem anyS_take (i : Nat) (B : List Nat) {E : List Nat} {oi : Oper} {v : Value} {fuel : Nat} {listed : Array Bool} {a : Act} {w : World} (hro : F.round = none) (hi : ops[i]? = some oi)
    (hs : Region.noSelect ops = true) (hf : Region.free md ops listed i = true) (hr : (Region.ready md ops listed).contains i = true) (hb : blocksB md ops listed i B = true) (hE : E.all (fun j => B.contains j) = true)
    (hQ : ∀ c a w, Q (.panic c) (a.put oi.dst v) w → Q (.panic c) a w) (hy : Tells P ops S oi v a) (hS : S w)
    (h : anyS F n P md ops Q S E fuel (listed.setIfInBounds i true) (a.put oi.dst v) w) : anyS F n P md ops Q S E (fuel + 1) listed a w :=
  anyS_first (fun j hj => by simpa using List.all_eq_true.1 hE j hj) hro hi (Region.noSelect_spec hs) hQ fuel listed a w (Region.free_spec hi hf) (by simpa using hr) (blocks_of hb) hy hS h

/-- only one operation may come up -/
theorem anyS_one (i : Nat) {B : List Nat} {o : Oper} {fuel : Nat} {listed : Array Bool} {a : Act} {w : World} (hr : Region.ready md ops listed = [i]) (hi : ops[i]? = some o) (hw : Region.wanted o (yielded ops a.tmps) = true)
    (h : ∀ K : Act → World → Prop, (∀ a' w', (B.contains i = false → S w') → anyS F n P md ops Q S B fuel (listed.setIfInBounds i true) a' w' → K a' w') → o.wpIn F n P a w K Q) : anyS F n P md ops Q S B (fuel + 1) listed a w := by
  refine ⟨fun h0 => (by rw [hr] at h0; cases h0), fun j hj => ?_⟩
  rw [hr] at hj
  obtain rfl := List.mem_singleton.1 hj
  unfold wpOpIn
  simp only [hi, hw, if_true]
  exact h _ fun a' w' h1 h2 => ⟨h1, h2⟩
theorem anyS_done {B : List Nat} {listed : Array Bool} {a : Act} {w : World} (hr : Region.ready md ops listed = []) (h : Q .normal a w) : ∀ fuel, anyS F n P md ops Q S B fuel listed a w
  | 0 => ⟨hr, h⟩
  | fuel + 1 => ⟨fun _ => h, fun i hi => by rw [hr] at hi; cases hi⟩
/-- a region that draws: all orders -/
theorem region_anyS (S : World → Prop) (B : List Nat) {id : Nat} {a : Act} {w : World} (hm : P.follows .mixedOrders = true) (h : anyS F n P .any ops Q S B ops.size (Array.replicate ops.size false) a w.drew) : (Code.region id ops true).wpIn F n P Q a w :=
  wpIn_region_any hm (any_of_S _ _ _ _ h)
end
end Go.Proofs.Ytkgebhmlogddcaa
/- An iterator of the layer view: the items that the view has not, or as they were. -/
namespace Go.Proofs.Ytkgebhmlogddcaa
open Go.RowKit Go.Shelf
set_option linter.unusedSimpArgs false
attribute [local go_sem] Oper.semAt_some
attribute [local go_sem] rowAt_alloc_at rowAt_alloc_past rowOk_alloc_at rowOk_alloc_past rowAt_drew rowOk_drew setRow_alloc_at setRow_alloc_past rowAt_setRow rowAt_setRow_far rowOk_setRow cell_rowOk frozen_rowOk setCell_rowOk setRow_setRow con_fold con_get con_size con_set set_all none8_cells equalIn_con storeCells_con
attribute [local go_sem] it_size it_0 it_1 it_2 it_3 it_4 it_5 it_6 it_7 it_8 it_9 it_10 it_set0 it_set1 it_set2 it_fold it_zero it_eta it_fill run_storeCells_it
attribute [local go_sem] sn_size sn_0 sn_1 sn_set0 sn_set1 sn_fold sn_eta sn_fill run_storeCells_sn eqg_sn eqg_it
attribute [local go_sem high] equalIn_sn equalIn_it
attribute [local go_sem] op_size op_0 op_1 op_2 op_3 op_4 op_5 op_6 op_7 op_8 op_9 op_10 op_11 op_con op_fold op_fold0 op_fillz op_set0 op_set1 op_set2 op_set3 op_ne op_fillC op_eta run_storeCells_op it_extr

def newP (v : List Sn) (x : It) : Bool := !toldP v x
theorem yield_bool {m l : Nat} {args : Array Value} {W : World} {p q : World → Prop}
    (h : YieldAt Fence.wide m Try.prog l args W fun e W' => (e = .returned (.bool true) ∧ p W') ∨ (e = .returned (.bool false) ∧ q W')) :
    YieldAt Fence.wide m Try.prog l args W fun e W' => ∃ b : Bool, e = .returned (.bool b) ∧ ((b = true ∧ p W') ∨ (b = false ∧ q W')) := by
  obtain ⟨fn, tmps, assign, body, hy, hR⟩ := h
  refine ⟨fn, tmps, assign, body, hy, hR.mono ?_⟩
  rintro e W' (⟨rfl, h⟩ | ⟨rfl, h⟩)
  · exact ⟨true, rfl, .inl ⟨rfl, h⟩⟩
  · exact ⟨false, rfl, .inr ⟨rfl, h⟩⟩
set_option maxRecDepth 100000 in
set_option maxHeartbeats 4000000 in
theorem fresh2_in (n : Nat) (hn : 1 ≤ n) (ll Bs Bv Bg n₀ gR cR : Nat) (A : Option Addr) (c : Nat) (v : List Sn) (R : List It) (gv : Int) (g0 : 0 ≤ gv) (g1 : gv < 256) (hlv : v.length ≤ 1000) (hlR : R.length ≤ 1000) (J Jx : List Opr → World → Prop) (W w0 : World) (hJ : AbidesFrom W.heap.size J)
    (hY : ∀ pre x W1, J pre W1 → pre.length < ((R.filter (newP v)).map (putO v gv)).length → YieldAt Fence.wide (n - 1) Try.prog ll #[.agg (opA x)] W1 fun e W' =>
      (e = .returned (.bool true) ∧ J (pre ++ [x]) W' ∧ KpL n₀ [Bv, Bg, gR] W1 W') ∨ (e = .returned (.bool false) ∧ Jx (pre ++ [x]) W'))
    (hBs : rowAt W Bs = #[.slice (some ⟨gR, 0, none⟩) R.length cR]) (hoks : rowOk W Bs = true) (hBv : rowAt W Bv = #[.slice A v.length c]) (hokv : rowOk W Bv = true) (hBg : rowAt W Bg = #[.int .u8 gv]) (hokg : rowOk W Bg = true) (hokR : rowOk W gR = true)
    (hcR : ∀ k (hk : k < R.length) j, j < 11 → (rowAt W gR)[k * 11 + j]? = (itA R[k])[j]?)
    (hv : KS.Rd w0 A v.length v) (hn0 : w0.heap.size ≤ n₀) (h0W : New w0 W) (hnW : n₀ ≤ W.heap.size) (h0 : J [] W) :
    CallsIn Fence.wide n Try.prog 87 #[.func (.yield ll) #[] #[], .pointer (some ⟨Bs, 0, none⟩), .pointer (some ⟨Bv, 0, none⟩), .pointer (some ⟨Bg, 0, none⟩)] W fun e W' => (∃ v, e = .returned v) ∧
      ((∃ ys, ys = (R.filter (newP v)).map (putO v gv) ∧ J ys W') ∨ (∃ pre, pre <+: (R.filter (newP v)).map (putO v gv) ∧ Jx pre W')) := by
  have hBlt := rowOk_lt W hoks
  have hvlt := rowOk_lt W hokv
  have hglt := rowOk_lt W hokg
  have hRlt := rowOk_lt W hokR
  refine callsIn_of_wp Try.func87 rfl trivial ?_ rfl
  simp only [Try.ntmps87, List.size_toArray, List.length_cons, List.length_nil, Nat.reduceAdd, Nat.reduceSub, Array.replicate_succ, Array.replicate_zero, List.push_toArray, List.append_toArray, List.nil_append, List.cons_append]
  gi_wp2
  gi_loopw [12] (fun i wr => ∃ k : Nat, k ≤ R.length ∧ i = .int .i64 k ∧ J (((R.take k).filter (newP v)).map (putO v gv)) wr ∧ KpL n₀ [Bv, Bg, gR] W wr ∧ W.heap.size ≤ wr.heap.size) (fun i _ => R.length - (intOf i).toNat)
  case atStart => exact ⟨0, Nat.zero_le _, rfl, h0, KpL.refl _ _ _, Nat.le_refl _⟩
  case round =>
    obtain ⟨k, hk, rfl, hJs, hnx, hsz⟩ := hrel
    have hnw : New w0 wr := h0W.trans (hnx.1.mono hn0)
    obtain ⟨hv1, hv2⟩ := hnx.row (by simp) hokv
    rw [hBv] at hv2
    obtain ⟨hgg1, hgg2⟩ := hnx.row (by simp) hokg
    rw [hBg] at hgg2
    obtain ⟨hR1, hR2⟩ := hnx.row (by simp) hokR
    have hv3 : Bv < wr.heap.size := rowOk_lt wr hv1
    have hgg3 : Bg < wr.heap.size := rowOk_lt wr hgg1
    have hR3 : gR < wr.heap.size := rowOk_lt wr hR1
    have hbs : ∀ b ∈ [Bv, Bg, gR], b < wr.heap.size := by simp; omega
    by_cases hlt : k < R.length
    · have hcell : ∀ j, j < 11 → wr.cell? ⟨gR, k * 11 + j, none⟩ = (itA R[k])[j]? := fun j hj => by rw [cell_rowOk wr hR1, hR2]; exact hcR k hlt j hj
      have hcell0 : wr.cell? ⟨gR, k * 11, none⟩ = (itA R[k])[0]? := hcell 0 (by omega)
      have hst := map_filter_step (putO v gv) (newP v) R k hlt
      have hlen1 := mf_len (putO v gv) (newP v) R k hlt
      have hpre1 := mf_pre (putO v gv) (newP v) R (k + 1)
      have hD1 := vof_any A v.length c v R[k].1
      have hnp : newP v R[k] = !((findS v R[k].1).isSome && ((findS v R[k].1).getD 0 == R[k].2.2.1)) := rfl
      have hpo : putO v gv R[k] = (if (findS v R[k].1).isSome then 2 else 1, 0, R[k].1, gv, mg none8 R[k].2.2.2 gv false 0) := rfl
      generalize (findS v R[k].1).isSome = it at *
      generalize (findS v R[k].1).getD 0 = sv at *
      generalize R[k] = x at *
      have hl2 := hv.new (hnw.alloc' (Obj.cells (itA x) 28))
      have hHD := Lib.hid hD1
      have hst2 := Lib.hid hst
      have hlen2 := Lib.hid hlen1
      have hpre2 := Lib.hid hpre1
      have hnp2 := Lib.hid hnp
      have hpo2 := Lib.hid hpo
      clear hst hlen1 hpre1 hD1 hnp hpo
      cases it
      · simp only [Bool.false_and, Bool.not_false, Bool.false_eq_true, if_false] at hnp2 hpo2
        gi_wp2_with (first
          | (refine ⟨trivial, ?_⟩; gi_at_call 39; refine (callsIn_wide.2 (hHD.out _ hl2 (by omega))).mono ?_; rintro e w1 ⟨rfl, hb⟩; have hA1 := rowAt_below hb wr.heap.size (by simp); have hO1 := rowOk_below hb wr.heap.size (by simp); simp only [rowAt_alloc_at _ _ _ _ rfl, rowOk_alloc_at _ _ _ _ rfl] at hA1 hO1; have hz1 : wr.heap.size < w1.heap.size := (by have := hb.size; simp only [World.size_alloc] at this; omega); have hG1 : rowAt w1 Bg = #[.int .u8 gv] := (by rw [rowAt_below hb Bg (by simp only [World.size_alloc]; omega), rowAt_alloc_past wr _ _ hgg3, hgg2]); have hG2 : rowOk w1 Bg = true := (by rw [rowOk_below hb Bg (by simp only [World.size_alloc]; omega), rowOk_alloc_past wr _ _ hgg3]; exact hgg1); have hr1 : New wr w1 := ((New.rfl' wr).alloc' (Obj.cells (itA x) 28)).call hb))
        have hS0 : (fun w' : World => rowAt w' wr.heap.size = itA x ∧ rowOk w' wr.heap.size = true ∧ rowAt w' Bg = #[.int .u8 gv] ∧ rowOk w' Bg = true ∧ New wr w' ∧ wr.heap.size < w'.heap.size) w1.drew := ⟨hA1, hO1, hG1, hG2, New.drew' hr1, hz1⟩
        refine region_anyS (fun w' : World => rowAt w' wr.heap.size = itA x ∧ rowOk w' wr.heap.size = true ∧ rowAt w' Bg = #[.int .u8 gv] ∧ rowOk w' Bg = true ∧ New wr w' ∧ wr.heap.size < w'.heap.size) [10, 11] (by kernel_rfl) ?_
        refine anyS_take 0 [10, 11] (v := .func (.yield ll) #[] #[]) rfl rfl (by kernel_rfl) (by kernel_rfl) (by kernel_rfl) (by kernel_rfl) (by kernel_rfl) (fun _ _ _ h => h) ⟨by rfl, ?_⟩ hS0 ?_
        · rintro w ⟨sa, sb, sc, sd, se, sf⟩
          refine ⟨?_, by rfl⟩
          go_simp
        simp only [Act.put, List.setIfInBounds_toArray, List.set_cons_zero, List.set_cons_succ]
        refine anyS_take 1 [9, 10, 11] (v := .int .u8 1) rfl rfl (by kernel_rfl) (by kernel_rfl) (by kernel_rfl) (by kernel_rfl) (by kernel_rfl) (fun _ _ _ h => h) ⟨by rfl, ?_⟩ hS0 ?_
        · rintro w ⟨sa, sb, sc, sd, se, sf⟩
          refine ⟨?_, by rfl⟩
          go_simp
        simp only [Act.put, List.setIfInBounds_toArray, List.set_cons_zero, List.set_cons_succ]
        refine anyS_take 2 [3, 9, 10, 11] (v := .pointer (some ⟨wr.heap.size, 0, none⟩)) rfl rfl (by kernel_rfl) (by kernel_rfl) (by kernel_rfl) (by kernel_rfl) (by kernel_rfl) (fun _ _ _ h => h) ⟨by rfl, ?_⟩ hS0 ?_
        · rintro w ⟨sa, sb, sc, sd, se, sf⟩
          refine ⟨?_, by rfl⟩
          go_simp
        simp only [Act.put, List.setIfInBounds_toArray, List.set_cons_zero, List.set_cons_succ]
        refine anyS_take 3 [9, 10, 11] (v := .int .u32 x.1) rfl rfl (by kernel_rfl) (by kernel_rfl) (by kernel_rfl) (by kernel_rfl) (by kernel_rfl) (fun _ _ _ h => h) ⟨by rfl, ?_⟩ hS0 ?_
        · rintro w ⟨sa, sb, sc, sd, se, sf⟩
          refine ⟨?_, by rfl⟩
          go_simp
        simp only [Act.put, List.setIfInBounds_toArray, List.set_cons_zero, List.set_cons_succ]
        refine anyS_take 4 [9, 10, 11] (v := .int .u8 gv) rfl rfl (by kernel_rfl) (by kernel_rfl) (by kernel_rfl) (by kernel_rfl) (by kernel_rfl) (fun _ _ _ h => h) ⟨by rfl, ?_⟩ hS0 ?_
        · rintro w ⟨sa, sb, sc, sd, se, sf⟩
          refine ⟨?_, by rfl⟩
          go_simp
        simp only [Act.put, List.setIfInBounds_toArray, List.set_cons_zero, List.set_cons_succ]
        refine anyS_take 5 [6, 8, 9, 10, 11] (v := .pointer (some ⟨wr.heap.size, 3, none⟩)) rfl rfl (by kernel_rfl) (by kernel_rfl) (by kernel_rfl) (by kernel_rfl) (by kernel_rfl) (fun _ _ _ h => h) ⟨by rfl, ?_⟩ hS0 ?_
        · rintro w ⟨sa, sb, sc, sd, se, sf⟩
          refine ⟨?_, by rfl⟩
          go_simp
        simp only [Act.put, List.setIfInBounds_toArray, List.set_cons_zero, List.set_cons_succ]
        refine anyS_take 6 [8, 9, 10, 11] (v := .agg ((itA x).extract 3 11)) rfl rfl (by kernel_rfl) (by kernel_rfl) (by kernel_rfl) (by kernel_rfl) (by kernel_rfl) (fun _ _ _ h => h) ⟨by rfl, ?_⟩ hS0 ?_
        · rintro w ⟨sa, sb, sc, sd, se, sf⟩
          refine ⟨?_, by rfl⟩
          go_simp
        simp only [Act.put, List.setIfInBounds_toArray, List.set_cons_zero, List.set_cons_succ]
        refine anyS_take 7 [8, 9, 10, 11] (v := .int .u8 gv) rfl rfl (by kernel_rfl) (by kernel_rfl) (by kernel_rfl) (by kernel_rfl) (by kernel_rfl) (fun _ _ _ h => h) ⟨by rfl, ?_⟩ hS0 ?_
        · rintro w ⟨sa, sb, sc, sd, se, sf⟩
          refine ⟨?_, by rfl⟩
          go_simp
        simp only [Act.put, List.setIfInBounds_toArray, List.set_cons_zero, List.set_cons_succ]
        refine anyS_one 8 (by kernel_rfl) rfl (by rfl) fun K hK => ?_
        go_simp
        refine ⟨trivial, ?_⟩
        gi_at_call 88
        refine (callsIn_wide.2 (vonly_any _ _ _ g0 g1)).mono ?_
        rintro e w2 ⟨rfl, hb2⟩
        have hr2 : New wr w2 := (New.drew' hr1).call hb2
        have hS2 : (fun w' : World => rowAt w' wr.heap.size = itA x ∧ rowOk w' wr.heap.size = true ∧ rowAt w' Bg = #[.int .u8 gv] ∧ rowOk w' Bg = true ∧ New wr w' ∧ wr.heap.size < w'.heap.size) w2 :=
          ⟨(rowAt_below hb2 wr.heap.size (show wr.heap.size < w1.heap.size by omega)).trans hA1, (rowOk_below hb2 wr.heap.size (show wr.heap.size < w1.heap.size by omega)).trans hO1, (rowAt_below hb2 Bg (show Bg < w1.heap.size by omega)).trans hG1, (rowOk_below hb2 Bg (show Bg < w1.heap.size by omega)).trans hG2, hr2, Nat.lt_of_lt_of_le hz1 hb2.size⟩
        refine hK _ _ (fun _ => hS2) ?_
        try simp only [Act.put, List.setIfInBounds_toArray, List.set_cons_zero, List.set_cons_succ]
        obtain ⟨fn, tmps, assign, body, hy, hR⟩ := yield_bool (hY _ (putO v gv x) _ (abides_new hJ hJs hr2) (hlen2.out hnp2.out))
        simp only [hpo2.out] at hy
        refine anyS_take 9 [10, 11] (v := .agg (opA (1, 0, x.1, gv, mg none8 x.2.2.2 gv false 0))) rfl rfl (by kernel_rfl) (by kernel_rfl) (by kernel_rfl) (by kernel_rfl) (by kernel_rfl) (fun _ _ _ h => h) ⟨by rfl, ?_⟩ hS2 ?_
        · rintro w ⟨sa, sb, sc, sd, se, sf⟩
          refine ⟨?_, by rfl⟩
          go_simp
        simp only [Act.put, List.setIfInBounds_toArray, List.set_cons_zero, List.set_cons_succ]
        refine anyS_one 10 (by kernel_rfl) rfl (by rfl) fun K hK => ?_
        try go_simp
        gi_wp2
        refine hR.mono ?_
        rintro e W3 ⟨b, rfl, hd⟩
        refine hK _ _ (fun h => by cases h) ?_
        try simp only [Act.put, List.setIfInBounds_toArray, List.set_cons_zero, List.set_cons_succ]
        refine anyS_one 11 (by kernel_rfl) rfl (by rfl) fun K hK => ?_
        go_simp
        refine hK _ _ (fun h => by cases h) ?_
        refine anyS_done (by kernel_rfl) ?_ _
        rcases hd with ⟨rfl, hJ3, hk3⟩ | ⟨rfl, hJx3⟩
        · gi_wp2
          go_roundw
          case rel => exact ⟨k + 1, by omega, by simp, by rw [hst2.out, hnp2.out]; exact hJ3, (hnx.new hr2 (Nat.le_trans hnW hsz) hbs).t hk3, Nat.le_trans hsz (Nat.le_trans hr2.size hk3.1.size)⟩
          case measure => simp [intOf]; omega
        · gi_wp2
          refine bodyPost_ret (results_none rfl _ _ _) rfl ?_
          exact ⟨⟨_, rfl⟩, .inr ⟨_, by have := hpre2.out; rw [hst2.out, hnp2.out] at this; exact this, hJx3⟩⟩
      · rcases Bool.eq_false_or_eq_true (sv == x.2.2.1) with hsv | hsv
        · rw [hsv] at hnp2
          simp only [Bool.true_and, Bool.not_true] at hnp2
          gi_wp2_with (first
            | (refine ⟨trivial, ?_⟩; gi_at_call 39; refine (callsIn_wide.2 (hHD.out _ hl2 (by omega))).mono ?_; rintro e w1 ⟨rfl, hb⟩; have hA1 := rowAt_below hb wr.heap.size (by simp); have hO1 := rowOk_below hb wr.heap.size (by simp); simp only [rowAt_alloc_at _ _ _ _ rfl, rowOk_alloc_at _ _ _ _ rfl] at hA1 hO1; have hz1 : wr.heap.size < w1.heap.size := (by have := hb.size; simp only [World.size_alloc] at this; omega); have hG1 : rowAt w1 Bg = #[.int .u8 gv] := (by rw [rowAt_below hb Bg (by simp only [World.size_alloc]; omega), rowAt_alloc_past wr _ _ hgg3, hgg2]); have hG2 : rowOk w1 Bg = true := (by rw [rowOk_below hb Bg (by simp only [World.size_alloc]; omega), rowOk_alloc_past wr _ _ hgg3]; exact hgg1); have hr1 : New wr w1 := ((New.rfl' wr).alloc' (Obj.cells (itA x) 28)).call hb))
          go_roundw
          case rel => exact ⟨k + 1, by omega, by simp, by rw [hst2.out, hnp2.out]; simpa using abides_new hJ hJs hr1, hnx.new hr1 (Nat.le_trans hnW hsz) hbs, Nat.le_trans hsz hr1.size⟩
          case measure => simp [intOf]; omega
        · rw [hsv] at hnp2
          simp only [Bool.and_false, Bool.not_false, if_true] at hnp2 hpo2
          gi_wp2_with (first
            | (refine ⟨trivial, ?_⟩; gi_at_call 39; refine (callsIn_wide.2 (hHD.out _ hl2 (by omega))).mono ?_; rintro e w1 ⟨rfl, hb⟩; have hA1 := rowAt_below hb wr.heap.size (by simp); have hO1 := rowOk_below hb wr.heap.size (by simp); simp only [rowAt_alloc_at _ _ _ _ rfl, rowOk_alloc_at _ _ _ _ rfl] at hA1 hO1; have hz1 : wr.heap.size < w1.heap.size := (by have := hb.size; simp only [World.size_alloc] at this; omega); have hG1 : rowAt w1 Bg = #[.int .u8 gv] := (by rw [rowAt_below hb Bg (by simp only [World.size_alloc]; omega), rowAt_alloc_past wr _ _ hgg3, hgg2]); have hG2 : rowOk w1 Bg = true := (by rw [rowOk_below hb Bg (by simp only [World.size_alloc]; omega), rowOk_alloc_past wr _ _ hgg3]; exact hgg1); have hr1 : New wr w1 := ((New.rfl' wr).alloc' (Obj.cells (itA x) 28)).call hb))
          have hS0 : (fun w' : World => rowAt w' wr.heap.size = itA x ∧ rowOk w' wr.heap.size = true ∧ rowAt w' Bg = #[.int .u8 gv] ∧ rowOk w' Bg = true ∧ New wr w' ∧ wr.heap.size < w'.heap.size) w1.drew := ⟨hA1, hO1, hG1, hG2, New.drew' hr1, hz1⟩
          refine region_anyS (fun w' : World => rowAt w' wr.heap.size = itA x ∧ rowOk w' wr.heap.size = true ∧ rowAt w' Bg = #[.int .u8 gv] ∧ rowOk w' Bg = true ∧ New wr w' ∧ wr.heap.size < w'.heap.size) [10, 11] (by kernel_rfl) ?_
          refine anyS_take 0 [10, 11] (v := .func (.yield ll) #[] #[]) rfl rfl (by kernel_rfl) (by kernel_rfl) (by kernel_rfl) (by kernel_rfl) (by kernel_rfl) (fun _ _ _ h => h) ⟨by rfl, ?_⟩ hS0 ?_
          · rintro w ⟨sa, sb, sc, sd, se, sf⟩
            refine ⟨?_, by rfl⟩
            go_simp
          simp only [Act.put, List.setIfInBounds_toArray, List.set_cons_zero, List.set_cons_succ]
          refine anyS_take 1 [9, 10, 11] (v := .int .u8 2) rfl rfl (by kernel_rfl) (by kernel_rfl) (by kernel_rfl) (by kernel_rfl) (by kernel_rfl) (fun _ _ _ h => h) ⟨by rfl, ?_⟩ hS0 ?_
          · rintro w ⟨sa, sb, sc, sd, se, sf⟩
            refine ⟨?_, by rfl⟩
            go_simp
          simp only [Act.put, List.setIfInBounds_toArray, List.set_cons_zero, List.set_cons_succ]
          refine anyS_take 2 [3, 9, 10, 11] (v := .pointer (some ⟨wr.heap.size, 0, none⟩)) rfl rfl (by kernel_rfl) (by kernel_rfl) (by kernel_rfl) (by kernel_rfl) (by kernel_rfl) (fun _ _ _ h => h) ⟨by rfl, ?_⟩ hS0 ?_
          · rintro w ⟨sa, sb, sc, sd, se, sf⟩
            refine ⟨?_, by rfl⟩
            go_simp
          simp only [Act.put, List.setIfInBounds_toArray, List.set_cons_zero, List.set_cons_succ]
          refine anyS_take 3 [9, 10, 11] (v := .int .u32 x.1) rfl rfl (by kernel_rfl) (by kernel_rfl) (by kernel_rfl) (by kernel_rfl) (by kernel_rfl) (fun _ _ _ h => h) ⟨by rfl, ?_⟩ hS0 ?_
          · rintro w ⟨sa, sb, sc, sd, se, sf⟩
            refine ⟨?_, by rfl⟩
            go_simp
          simp only [Act.put, List.setIfInBounds_toArray, List.set_cons_zero, List.set_cons_succ]
          refine anyS_take 4 [9, 10, 11] (v := .int .u8 gv) rfl rfl (by kernel_rfl) (by kernel_rfl) (by kernel_rfl) (by kernel_rfl) (by kernel_rfl) (fun _ _ _ h => h) ⟨by rfl, ?_⟩ hS0 ?_
          · rintro w ⟨sa, sb, sc, sd, se, sf⟩
            refine ⟨?_, by rfl⟩
            go_simp
          simp only [Act.put, List.setIfInBounds_toArray, List.set_cons_zero, List.set_cons_succ]
          refine anyS_take 5 [6, 8, 9, 10, 11] (v := .pointer (some ⟨wr.heap.size, 3, none⟩)) rfl rfl (by kernel_rfl) (by kernel_rfl) (by kernel_rfl) (by kernel_rfl) (by kernel_rfl) (fun _ _ _ h => h) ⟨by rfl, ?_⟩ hS0 ?_
          · rintro w ⟨sa, sb, sc, sd, se, sf⟩
            refine ⟨?_, by rfl⟩
            go_simp
          simp only [Act.put, List.setIfInBounds_toArray, List.set_cons_zero, List.set_cons_succ]
          refine anyS_take 6 [8, 9, 10, 11] (v := .agg ((itA x).extract 3 11)) rfl rfl (by kernel_rfl) (by kernel_rfl) (by kernel_rfl) (by kernel_rfl) (by kernel_rfl) (fun _ _ _ h => h) ⟨by rfl, ?_⟩ hS0 ?_
          · rintro w ⟨sa, sb, sc, sd, se, sf⟩
            refine ⟨?_, by rfl⟩
            go_simp
          simp only [Act.put, List.setIfInBounds_toArray, List.set_cons_zero, List.set_cons_succ]
          refine anyS_take 7 [8, 9, 10, 11] (v := .int .u8 gv) rfl rfl (by kernel_rfl) (by kernel_rfl) (by kernel_rfl) (by kernel_rfl) (by kernel_rfl) (fun _ _ _ h => h) ⟨by rfl, ?_⟩ hS0 ?_
          · rintro w ⟨sa, sb, sc, sd, se, sf⟩
            refine ⟨?_, by rfl⟩
            go_simp
          simp only [Act.put, List.setIfInBounds_toArray, List.set_cons_zero, List.set_cons_succ]
          refine anyS_one 8 (by kernel_rfl) rfl (by rfl) fun K hK => ?_
          go_simp
          refine ⟨trivial, ?_⟩
          gi_at_call 88
          refine (callsIn_wide.2 (vonly_any _ _ _ g0 g1)).mono ?_
          rintro e w2 ⟨rfl, hb2⟩
          have hr2 : New wr w2 := (New.drew' hr1).call hb2
          have hS2 : (fun w' : World => rowAt w' wr.heap.size = itA x ∧ rowOk w' wr.heap.size = true ∧ rowAt w' Bg = #[.int .u8 gv] ∧ rowOk w' Bg = true ∧ New wr w' ∧ wr.heap.size < w'.heap.size) w2 :=
            ⟨(rowAt_below hb2 wr.heap.size (show wr.heap.size < w1.heap.size by omega)).trans hA1, (rowOk_below hb2 wr.heap.size (show wr.heap.size < w1.heap.size by omega)).trans hO1, (rowAt_below hb2 Bg (show Bg < w1.heap.size by omega)).trans hG1, (rowOk_below hb2 Bg (show Bg < w1.heap.size by omega)).trans hG2, hr2, Nat.lt_of_lt_of_le hz1 hb2.size⟩
          refine hK _ _ (fun _ => hS2) ?_
          try simp only [Act.put, List.setIfInBounds_toArray, List.set_cons_zero, List.set_cons_succ]
          obtain ⟨fn, tmps, assign, body, hy, hR⟩ := yield_bool (hY _ (putO v gv x) _ (abides_new hJ hJs hr2) (hlen2.out hnp2.out))
          simp only [hpo2.out] at hy
          refine anyS_take 9 [10, 11] (v := .agg (opA (2, 0, x.1, gv, mg none8 x.2.2.2 gv false 0))) rfl rfl (by kernel_rfl) (by kernel_rfl) (by kernel_rfl) (by kernel_rfl) (by kernel_rfl) (fun _ _ _ h => h) ⟨by rfl, ?_⟩ hS2 ?_
          · rintro w ⟨sa, sb, sc, sd, se, sf⟩
            refine ⟨?_, by rfl⟩
            go_simp
          simp only [Act.put, List.setIfInBounds_toArray, List.set_cons_zero, List.set_cons_succ]
          refine anyS_one 10 (by kernel_rfl) rfl (by rfl) fun K hK => ?_
          try go_simp
          gi_wp2
          refine hR.mono ?_
          rintro e W3 ⟨b, rfl, hd⟩
          refine hK _ _ (fun h => by cases h) ?_
          try simp only [Act.put, List.setIfInBounds_toArray, List.set_cons_zero, List.set_cons_succ]
          refine anyS_one 11 (by kernel_rfl) rfl (by rfl) fun K hK => ?_
          go_simp
          refine hK _ _ (fun h => by cases h) ?_
          refine anyS_done (by kernel_rfl) ?_ _
          rcases hd with ⟨rfl, hJ3, hk3⟩ | ⟨rfl, hJx3⟩
          · gi_wp2
            go_roundw
            case rel => exact ⟨k + 1, by omega, by simp, by rw [hst2.out, hnp2.out]; exact hJ3, (hnx.new hr2 (Nat.le_trans hnW hsz) hbs).t hk3, Nat.le_trans hsz (Nat.le_trans hr2.size hk3.1.size)⟩
            case measure => simp [intOf]; omega
          · gi_wp2
            refine bodyPost_ret (results_none rfl _ _ _) rfl ?_
            exact ⟨⟨_, rfl⟩, .inr ⟨_, by have := hpre2.out; rw [hst2.out, hnp2.out] at this; exact this, hJx3⟩⟩

    · gi_wp2
      go_end0
      rw [List.take_of_length_le (by omega)] at hJs
      exact ⟨⟨_, rfl⟩, .inl ⟨_, rfl, hJs⟩⟩
end Go.Proofs.Ytkgebhmlogddcaa
/- The makers of the layer view's iterators. -/
namespace Go.Proofs.Ytkgebhmlogddcaa
open Go.RowKit Go.Shelf
set_option linter.unusedSimpArgs false
attribute [local go_sem] rowAt_alloc_at rowAt_alloc_past rowOk_alloc_at rowOk_alloc_past rowAt_drew rowOk_drew setRow_alloc_at setRow_alloc_past rowAt_setRow rowAt_setRow_far rowOk_setRow cell_rowOk frozen_rowOk setCell_rowOk setRow_setRow con_fold con_get con_size con_set set_all none8_cells equalIn_con storeCells_con
attribute [local go_sem] it_size it_0 it_1 it_2 it_3 it_4 it_5 it_6 it_7 it_8 it_9 it_10 it_set0 it_set1 it_set2 it_fold it_zero it_eta it_fill run_storeCells_it
attribute [local go_sem] sn_size sn_0 sn_1 sn_set0 sn_set1 sn_fold sn_eta sn_fill run_storeCells_sn eqg_sn eqg_it
attribute [local go_sem high] equalIn_sn equalIn_it

set_option maxHeartbeats 400000 in
theorem gone_any (A : Option Addr) (n c : Nat) (B : Option Addr) (m d : Nat) (w : World) :
    Calls Try.prog 67 #[.slice A n c, .slice B m d] w fun e w' => e = .returned (.func (.func 82) #[] #[.pointer (some ⟨w.heap.size, 0, none⟩), .pointer (some ⟨w.heap.size + 1, 0, none⟩)]) ∧
      w' = (w.alloc (Obj.cells #[.slice A n c] 46)).alloc (Obj.cells #[.slice B m d] 22) := by
  go_enter Try.func67, Try.ntmps67
  go_wp2_with fail
  go_ret
  exact ⟨rfl, rfl⟩
set_option maxHeartbeats 400000 in
theorem fresh_any (A : Option Addr) (n c : Nat) (B : Option Addr) (d : Nat) (l : List It) (gv : Int) (w : World) (hl : KI.Rd w B l.length l) (hlen : l.length ≤ 1000) (hso : SortOk l) :
    Calls Try.prog 68 #[.slice A n c, .slice B l.length d, .int .u8 gv] w fun e w' => ∃ A2 c2 w2, e = .returned (.func (.func 87) #[] #[.pointer (some ⟨w2.heap.size, 0, none⟩), .pointer (some ⟨w.heap.size, 0, none⟩), .pointer (some ⟨w.heap.size + 1, 0, none⟩)]) ∧
      w' = w2.alloc (Obj.cells #[.slice A2 (isort l).length c2] 22) ∧ KI.Own w2 (w.heap.size + 1 + 1 + 1) (.slice A2 (isort l).length c2) (isort l) ∧ New ((w.alloc (Obj.cells #[.slice A n c] 46)).alloc (Obj.cells #[.int .u8 gv] 5)) w2 := by
  go_enter Try.func68, Try.ntmps68
  go_wp2_with (first
    | (go_at_call 84; refine (values_any _ _ _ _).mono ?_; rintro e w1 ⟨rfl, rfl⟩)
    | (go_at_call 83; refine (sorted_any B d _ l hlen hso _ (rowAt_alloc_at _ _ _ _ (by simp only [World.size_alloc])) (rowOk_alloc_at _ _ _ _ (by simp only [World.size_alloc])) (hl.new (by exact (((New.rfl' w).alloc' _).alloc' _).alloc' _))).mono ?_; rintro e w2 ⟨v, rfl, hv2, hb⟩; obtain ⟨A2, c2, rfl, hc2⟩ := hv2.form))
  have hn2 := ((New.rfl' ((w.alloc (Obj.cells #[.slice A n c] 46)).alloc (Obj.cells #[.int .u8 gv] 5))).alloc' (Obj.cells #[.slice B l.length d] 22)).call hb
  simp only [World.size_alloc] at hv2
  go_ret
  exact ⟨A2, c2, w2, rfl, rfl, hv2, hn2⟩
end Go.Proofs.Ytkgebhmlogddcaa
/- Append to an own row inside a fence, and where the new row lies; what KpL keeps. -/
namespace Go.Proofs.Ytkgebhmlogddcaa
open Go.RowKit Go.Shelf

theorem Kind.wpListIn_append1A {α : Type} {K : Kind α} {F : Fence} {n : Nat} {w : World} {base : Nat} {v : Value} {l : List α} {ops : Array Oper} {rest : List Oper} {o : Oper} {a : Act} {Q : Exit → Act → World → Prop} (hgd : o.guard = none) (s x : Operand)
    (ho : o.op = .call { callee := .builtin .append, args := #[s, x], argTypes := #[K.t, K.t] }) (hs : a.eval s = v) (hown : K.Own w base v l)
    (y : α) (g : Nat) (hx : a.eval x = .slice (some ⟨g, 0, none⟩) 1 1) (hr : rowOk w g = true) (hy : rowAt w g = K.enc y)
    (h63 : l.length + 1 ≤ 1048576) (hbytes : K.bytes ≤ 4096) (hbase : base ≤ w.heap.size)
    (h : ∀ v' w', K.Own w' base v' (l ++ [y]) → w.grownBy w' v.ownBlock → (v'.ownBlock = v.ownBlock ∨ v'.ownBlock = some w.heap.size) → wpListIn F n Try.prog ops Q rest (a.put o.dst v') w') : wpListIn F n Try.prog ops Q (o :: rest) a w := by
  refine wpListIn_plain hgd fun K' hK' => ?_
  obtain ⟨v', w', hrun, h2, h3, h4⟩ := Kind.run_append1A (Kd := K) o.type hown y hr hy h63 hbytes hbase
  unfold Oper.wpIn
  refine ⟨by simp [Oper.about, ho, resolve, Target.leads, Sem.run_pure], ?_⟩
  rw [Oper.semAt_plain F _ _ (by rw [ho]; intro c hc'; cases hc')]
  simp [execOp, ho, resolve, invoke, builtin, hs, hx, hrun, Result.andThen]
  exact hK' _ _ (h v' w' h2 h3 h4)

/-- a block that is no cells is put behind n₀ and outside of bs -/
theorem KpL.put {n₀ : Nat} {bs : List Nat} {w : World} (hn : n₀ ≤ w.heap.size) (hbs : ∀ b ∈ bs, b < w.heap.size) (W : World) (l : Nat) (o o' : Obj) (hl : w.heap.size ≤ l) (h : W.heap[l]? = some o) (hc : o.isCells = false) (hw : o.isWalk = false) : KpL n₀ bs W (W.putObj l o') := by
  refine ⟨belowK_b hn W l o o' hl h hc hw, fun b hb => ?_⟩
  have hlt : l < W.heap.size := (Array.getElem?_eq_some_iff.1 h).1
  exact (grownBy_putObj' W l o').block b (by have := hbs b hb; omega) (fun e => by cases e; have := hbs _ hb; omega)
end Go.Proofs.Ytkgebhmlogddcaa
/- Contracts of the layer view: what is pending. -/
namespace Go.Proofs.Ytkgebhmlogddcaa
open Go.RowKit Go.Shelf
set_option linter.unusedSimpArgs false
attribute [local go_sem] Oper.semAt_some
attribute [local go_sem] rowAt_alloc_at rowAt_alloc_past rowOk_alloc_at rowOk_alloc_past rowAt_drew rowOk_drew setRow_alloc_at setRow_alloc_past rowAt_setRow rowAt_setRow_far rowOk_setRow cell_rowOk frozen_rowOk setCell_rowOk setRow_setRow con_fold con_get con_size con_set set_all none8_cells equalIn_con storeCells_con
attribute [local go_sem] it_size it_0 it_1 it_2 it_3 it_4 it_5 it_6 it_7 it_8 it_9 it_10 it_set0 it_set1 it_set2 it_fold it_zero it_eta it_fill run_storeCells_it
attribute [local go_sem] sn_size sn_0 sn_1 sn_set0 sn_set1 sn_fold sn_eta sn_fill run_storeCells_sn eqg_sn eqg_it
attribute [local go_sem high] equalIn_sn equalIn_it
attribute [local go_sem] op_size op_0 op_1 op_2 op_3 op_4 op_5 op_6 op_7 op_8 op_9 op_10 op_11 op_con op_fold op_fold0 op_fillz op_set0 op_set1 op_set2 op_set3 op_ne op_fillC op_eta run_storeCells_op it_extr

theorem aO_own (Bs base : Nat) : Go.Own (fun (pre : List Opr) (W : World) => ∃ v, (rowOk W Bs = true ∧ rowAt W Bs = #[v]) ∧ KO.Own W base v pre) := by
  intro pre W W' row hs hg hr
  obtain ⟨v, ⟨h1, h2⟩, h3⟩ := hs
  obtain ⟨k1, k2⟩ := row_kept h1 hg hr
  exact ⟨v, ⟨k1, k2.trans h2⟩, h3.keptNC hg hr⟩
theorem fresh2_nil (n : Nat) (_ : 1 ≤ n) (ll Bs Bv Bg cR : Nat) (A : Option Addr) (J Jx : List Opr → World → Prop) (W : World)
    (hBs : rowAt W Bs = #[.slice A 0 cR]) (hoks : rowOk W Bs = true) (h0 : J [] W) :
    CallsIn Fence.wide n Try.prog 87 #[.func (.yield ll) #[] #[], .pointer (some ⟨Bs, 0, none⟩), .pointer (some ⟨Bv, 0, none⟩), .pointer (some ⟨Bg, 0, none⟩)] W fun e W' => (∃ v, e = .returned v) ∧
      ((∃ ys, ys = ([] : List Opr) ∧ J ys W') ∨ (∃ pre, pre <+: ([] : List Opr) ∧ Jx pre W')) := by
  have hBlt := rowOk_lt W hoks
  refine callsIn_of_wp Try.func87 rfl trivial ?_ rfl
  simp only [Try.ntmps87, List.size_toArray, List.length_cons, List.length_nil, Nat.reduceAdd, Nat.reduceSub, Array.replicate_succ, Array.replicate_zero, List.push_toArray, List.append_toArray, List.nil_append, List.cons_append]
  gi_wp2
  gi_loopw [12] (fun i wr => i = .int .i64 0 ∧ wr = W) (fun _ _ => 0)
  case atStart => exact ⟨rfl, rfl⟩
  case round =>
    obtain ⟨rfl, rfl⟩ := hrel
    gi_wp2
    go_end0
    exact ⟨⟨_, rfl⟩, .inl ⟨_, rfl, h0⟩⟩
theorem KpL.sub {n₀ : Nat} {bs bs' : List Nat} {A B : World} (h : KpL n₀ bs A B) (hs : ∀ b ∈ bs', b ∈ bs) : KpL n₀ bs' A B := ⟨h.1, fun b hb => h.2 b (hs b hb)⟩
theorem ownFrom_kpL {β : Type} {n₀ B : Nat} {bs : List Nat} {w₀ : World} (hn : n₀ ≤ w₀.heap.size) (hB : n₀ ≤ B) (hb : ∀ b ∈ bs, b < B ∧ b < w₀.heap.size) : OwnFrom B (fun (_ : β) W => KpL n₀ bs w₀ W) :=
  fun _ X Y row hs hg hr => ⟨hs.1.grown hg (Nat.le_trans hn hs.1.size) (fun k e => Nat.le_trans hB (hr k e).1), fun b hbb => by
    refine (hg.block b (Nat.lt_of_lt_of_le (hb b hbb).2 hs.1.size) (fun e => ?_)).trans (hs.2 b hbb)
    have := (hr b e.symm).1; have := (hb b hbb).1; omega⟩
theorem aO_own2 (Bs base : Nat) (p1 : List Opr) (bs : List Nat) : Go.Own (fun (pre : List Opr) (W : World) => ∃ v, (rowOk W Bs = true ∧ rowAt W Bs = #[v]) ∧ KO.Own W base v (p1 ++ pre) ∧ ∀ k, v.ownBlock = some k → k ∉ bs) := by
  intro pre W W' row hs hg hr
  obtain ⟨v, ⟨h1, h2⟩, h3, h4⟩ := hs
  obtain ⟨k1, k2⟩ := row_kept h1 hg hr
  exact ⟨v, ⟨k1, k2.trans h2⟩, h3.keptNC hg hr, h4⟩
set_option maxRecDepth 100000 in
set_option maxHeartbeats 2000000 in
theorem vpend_in (A : Option Addr) (c : Nat) (v : List Sn) (B : Option Addr) (d : Nat) (l : List It) (gv : Int) (g0 : 0 ≤ gv) (g1 : gv < 256) (hlv : v.length ≤ 1000) (hll : l.length ≤ 1000) (hso : SortOk l) (w : World) (hv : KS.Rd w A v.length v) (hl : KI.Rd w B l.length l) (hmv : risS 0 v = true) (hml : mayI l = true) :
    CallsIn Fence.wide 7 Try.prog 45 #[.slice A v.length c, .slice B l.length d, .int .u8 gv] w fun e w' => ∃ u, e = .returned u ∧ KO.Own w' w.heap.size u ((v.filter (goneP l)).map delO ++ ((isort l).filter (newP v)).map (putO v gv)) ∧ New w w' := by
  have HA1 := vmay_any A v.length c v
  rw [hmv] at HA1
  have HA := Lib.hid HA1
  have HB1 := imay_any B l.length d l
  rw [hml] at HB1
  have HB := Lib.hid HB1
  clear HA1 HB1
  refine callsIn_of_wp_marks Try.func45 rfl trivial ?_ rfl
  simp only [Try.ntmps45, List.size_toArray, List.length_cons, List.length_nil, Nat.reduceAdd, Nat.reduceSub, Array.replicate_succ, Array.replicate_zero, List.push_toArray, List.append_toArray, List.nil_append, List.cons_append]
  gi_wp2_with (first
    | (refine ⟨trivial, ?_⟩; gi_at_call 42; refine (callsIn_wide.2 (HA.out _ hv (by omega))).mono ?_; rintro e w1 ⟨rfl, hb1⟩)
    | (refine ⟨trivial, ?_⟩; gi_at_call 21; refine (callsIn_wide.2 (HB.out _ (hl.new hb1) (by omega))).mono ?_; rintro e w2 ⟨rfl, hb⟩; have hb2 := New.call hb1 hb; clear hb)
    | (refine ⟨trivial, ?_⟩; gi_at_call 67; refine (callsIn_wide.2 (gone_any _ _ _ _ _ _ _)).mono ?_; rintro e w3 ⟨rfl, rfl⟩))
  have hsz2 := hb2.size
  generalize hb0 : w2.heap.size = b0 at *
  have hW3 : ∃ W3, ((w2.alloc (Obj.cells #[.slice none 0 0] 71)).alloc (Obj.cells #[.slice A v.length c] 46)).alloc (Obj.cells #[.slice B l.length d] 22) = W3 := ⟨_, rfl⟩
  obtain ⟨W3, hW3⟩ := hW3
  have hz3 : W3.heap.size = b0 + 3 := by rw [← hW3]; simp [hb0]
  have hB3 : Below b0 w2 W3 := by rw [← hW3, ← hb0]; exact (((New.rfl' w2).alloc' _).alloc' _).alloc' _
  have hr0 : rowOk W3 b0 = true ∧ rowAt W3 b0 = #[.slice none 0 0] := by
    rw [← hW3]
    exact ⟨by rw [rowOk_alloc_past _ _ _ (by simp [hb0]; omega), rowOk_alloc_past _ _ _ (by simp [hb0])]; exact rowOk_alloc_at w2 _ _ _ hb0.symm, by rw [rowAt_alloc_past _ _ _ (by simp [hb0]; omega), rowAt_alloc_past _ _ _ (by simp [hb0])]; exact rowAt_alloc_at w2 _ _ _ hb0.symm⟩
  have hr1 : rowOk W3 (b0 + 1) = true ∧ rowAt W3 (b0 + 1) = #[.slice A v.length c] := by
    rw [← hW3]
    exact ⟨by rw [rowOk_alloc_past _ _ _ (by simp [hb0])]; exact rowOk_alloc_at _ _ _ _ (by simp [hb0]), by rw [rowAt_alloc_past _ _ _ (by simp [hb0])]; exact rowAt_alloc_at _ _ _ _ (by simp [hb0])⟩
  have hr2 : rowOk W3 (b0 + 1 + 1) = true ∧ rowAt W3 (b0 + 1 + 1) = #[.slice B l.length d] := by
    rw [← hW3]
    exact ⟨rowOk_alloc_at _ _ _ _ (by simp [hb0]), rowAt_alloc_at _ _ _ _ (by simp [hb0])⟩
  rw [hW3]
  clear hW3
  refine wpIn_rangeFunc_ownH rfl (by omega) (gf := 82) (lb := #[.pointer (some ⟨b0 + 1, 0, none⟩), .pointer (some ⟨b0 + 1 + 1, 0, none⟩)]) rfl trivial (enters_of Try.func82 (by kernel_rfl) rfl)
    (encs := fun x : Opr => #[Value.agg (opA x)]) (Kp := KpL b0 [b0 + 1 + 1]) (S := fun ys => ys = (v.filter (goneP l)).map delO) (Sp := fun pre => pre <+: (v.filter (goneP l)).map delO) (N := ((v.filter (goneP l)).map delO).length) (w0 := W3) ?hseq KpL.t (KpL.put (by omega) (by simp; omega)) (Below.refl _ _) (fun _ => rfl)
    (fun pre W => (∃ u, (rowOk W b0 = true ∧ rowAt W b0 = #[u]) ∧ KO.Own W (b0 + 3) u pre) ∧ Below b0 W3 W)
    (fun _ _ _ => False)
    (OwnFrom.and (Own.from (aO_own _ _) _) (ownFrom_below (by omega) (by omega)))
    (fun _ _ _ _ _ hs _ _ => hs)
    ⟨⟨_, hr0, Kind.Own.nil⟩, Below.refl _ _⟩
    (fun x a' W => ∃ Bx, b0 + 3 ≤ Bx ∧ rowOk W Bx = true ∧ rowAt W Bx = opA x ∧ a' = { tmps := #[.slice A v.length c, .slice B l.length d, .int .u8 gv, undef, undef, undef, .slice none 0 0, .pointer (some ⟨b0, 0, none⟩), .pointer (some ⟨Bx, 0, none⟩), undef, .slice A v.length c, .bool true, .bool false, .bool false, .slice B l.length d, .bool true, .bool false, .bool false, .slice A v.length c, .slice B l.length d, .func (.func 82) #[] #[.pointer (some ⟨b0 + 1, 0, none⟩), .pointer (some ⟨b0 + 1 + 1, 0, none⟩)], .agg (opA x), undef, undef, undef, undef, undef, undef, undef, undef, undef, undef, undef, undef, undef, undef], defers := [] })
    (fun x a' _ X Y row hs hg hr => by obtain ⟨Bx, h1, h2, h3, h4⟩ := hs; obtain ⟨k1, k2⟩ := row_kept h2 hg (fun r e => (hr r e).2); exact ⟨Bx, h1, k1, k2.trans h3, h4⟩)
    ?assign ?body ?done ?stop
  case hseq =>
    intro l' J Jx W hW hJ _ hY h0
    exact gone1_in 6 (by omega) l' (b0 + 1) (b0 + 1 + 1) b0 A c v B d l hlv (by omega) J Jx W w hJ hY (by rw [rowAt_below hW _ (by omega)]; exact hr1.2) (by rw [rowOk_below hW _ (by omega)]; exact hr1.1) (by rw [rowAt_below hW _ (by omega)]; exact hr2.2) (by rw [rowOk_below hW _ (by omega)]; exact hr2.1) hv hl hsz2 (hb2.trans ((hB3.mono hsz2).trans (hW.mono (by omega)))) (by have := hW.size; omega) h0
  case assign =>
    rintro l' pre x W K ⟨⟨u, ⟨hb1, hb2⟩, hu⟩, hB⟩ hK
    have hlt := rowOk_lt W hb1
    gi_wp2
    have hsz := hB.size
    exact hK _ _ ((KeepsOthers.alloc _ _).from _) ((KpL.refl _ _ W).new ((New.rfl' W).alloc' _) (by omega) (by simp; omega)) ⟨⟨u, ⟨by rw [rowOk_alloc_past W _ _ hlt]; exact hb1, by rw [rowAt_alloc_past W _ _ hlt]; exact hb2⟩, hu.alloc _⟩, hB.alloc (by omega) _⟩ ⟨W.heap.size, by omega, rowOk_alloc_at W _ _ _ rfl, rowAt_alloc_at W _ _ _ rfl, rfl⟩
  case body =>
    rintro l' pre x a' W hl' ⟨r, hr⟩ ⟨⟨u, ⟨hb1, hb2⟩, hu⟩, hB⟩ ⟨Bx, hBx, hx1, hx2, rfl⟩ hlt
    have hlt1 := rowOk_lt W hb1
    have hlt2 := rowOk_lt W hx1
    have hsz := hB.size
    have hpl : pre.length < 1000 := by have h2 := List.length_filter_le (goneP l) v; simp only [List.length_map] at hlt; omega
    have hne : ∀ k, k < b0 + 3 → u.ownBlock ≠ some k := fun k hk e => by have := (World.ownsRow.lt hu _ e).1; omega
    gi_wp2_with (gi_at_builtin; refine Kind.wpListIn_append1 rfl _ _ rfl rfl (hu.alloc _) x W.heap.size rfl (rowOk_alloc_at W _ _ _ rfl) (rowAt_alloc_at W _ _ _ rfl) (by omega) KO_b (by simp only [World.size_alloc]; omega) ?_; intro v' w1 hv1 hg1; obtain ⟨A1, c1, rfl, _⟩ := hv1.form; have hk1 := (hg1.block b0 (by simp only [World.size_alloc]; omega) (fun e => hne b0 (by omega) e.symm)); have hok1 : rowOk w1 b0 = true := (by unfold rowOk; rw [hk1]; exact (rowOk_alloc_past W _ _ hlt1).trans hb1); have hra1 : rowAt w1 b0 = #[u] := (by unfold rowAt; rw [hk1]; exact (rowAt_alloc_past W _ _ hlt1).trans hb2))
    have hg1 : (W.alloc (Obj.cells (opA x) 48)).grownBy w1 u.ownBlock := hg1
    have hv1 : KO.Own w1 (b0 + 3) (.slice A1 (pre.length + 1) c1) (pre ++ [x]) := by have := hv1; rw [List.length_append] at this; exact this
    have hsz1 : W.heap.size + 1 ≤ w1.heap.size := by have := hg1.size; simpa using this
    have hBW1 : Below b0 W w1 := Below.grown ((Below.refl _ W).alloc (by omega) _) hg1 (by simp only [World.size_alloc]; omega) (fun k e => by have := (World.ownsRow.lt hu _ e).1; omega)
    have hBW2 := below_setRow hBW1 b0 #[Value.slice A1 (pre.length + 1) c1] (Nat.le_refl _)
    have hoth : ∀ k, k < b0 + 3 → k ≠ b0 → (w1.setRow b0 #[Value.slice A1 (pre.length + 1) c1]).heap[k]? = W.heap[k]? := fun k hk hkb => by
      rw [setRow_other w1 _ _ _ (by omega), hg1.block k (by simp only [World.size_alloc]; omega) (fun e => hne k hk e.symm), Below.heap_alloc W _ k (by omega)]
    refine ⟨⟨by rw [size_setRow']; omega, fun k o hBk hk hc => ?_⟩, ⟨hBW2, by intro b hb; obtain rfl := List.mem_singleton.1 hb; exact hoth _ (by omega) (by omega)⟩, ⟨_, ⟨by rw [rowOk_setRow]; exact hok1, rowAt_setRow w1 _ _ hok1⟩, World.ownsRow.kept hv1 (grown_setRow w1 b0 _) (.inr fun e => by have := (World.ownsRow.lt hv1 _ e).1; omega)⟩, hB.trans hBW2⟩
    have hklt : k < W.heap.size := (Array.getElem?_eq_some_iff.1 hk).1
    rw [setRow_other w1 _ _ _ (by omega), hg1.block k (by simp only [World.size_alloc]; omega) (fun e => ?_), Below.heap_alloc W _ k hklt]
    · exact hk
    · rcases hu.2 with ⟨rfl, _⟩ | ⟨g, cap, cur, rfl, _, hgc, _⟩
      · cases e
      · injection e with e
        have e : k = g := e
        subst e
        rw [hgc] at hk; injection hk with hk; subst hk; cases hc
  case done =>
    rintro D ys W hD rfl ⟨⟨u, ⟨hd1, hd2⟩, hu⟩, hB⟩ hK
    have hnW : New w W := hb2.trans ((hB3.mono hsz2).trans (hB.mono hsz2))
    have hszW := hB.size
    have hlu : ∀ k, u.ownBlock = some k → k < W.heap.size := fun k e => (World.ownsRow.lt hu _ e).2
    gi_wp2_with (first
      | (refine ⟨trivial, ?_⟩; gi_at_call 68; refine (callsIn_wide.2 (fresh_any A v.length c B d l gv W (hl.new hnW) hll hso)).mono ?_; rintro e w6 ⟨A2, c2, w5, rfl, rfl, hR5, hn5⟩))
    have hn5' : New W w5 := (((New.rfl' W).alloc' _).alloc' _).trans (hn5.mono (by simp only [World.size_alloc]; omega))
    have hsz5 : W.heap.size + 1 + 1 ≤ w5.heap.size := by have := hn5.size; simpa only [World.size_alloc] using this
    obtain ⟨gR, hg1, hg2, hgR⟩ : ∃ gR, W.heap.size ≤ gR ∧ gR < w5.heap.size ∧ (isort l = [] ∨ (A2 = some ⟨gR, 0, none⟩ ∧ rowOk w5 gR = true ∧ ∀ k (hk : k < (isort l).length) j, j < 11 → (rowAt w5 gR)[k * 11 + j]? = (itA (isort l)[k])[j]?)) := by
      rcases Nat.eq_zero_or_pos (isort l).length with h0 | h0
      · exact ⟨W.heap.size, Nat.le_refl _, by omega, .inl (List.eq_nil_of_length_eq_zero h0)⟩
      · obtain ⟨g', eg, -, -, -, hok5, -⟩ := hR5.spotK h0
        subst eg
        have hgb := (World.ownsRow.lt hR5 g' rfl).1
        have hlt5 := rowOk_lt w5 hok5
        refine ⟨g', by omega, hlt5, .inr ⟨rfl, hok5, fun k hk j hj => ?_⟩⟩
        rw [← cell_rowOk w5 hok5]
        exact own_it hR5 w5 (New.rfl' w5) k hk j hj
    generalize hp1 : (v.filter (goneP l)).map delO = p1 at *
    have hDW : D < W.heap.size := (Array.getElem?_eq_some_iff.1 hK).1
    obtain ⟨W6, hW6⟩ : ∃ W6, w5.alloc (Obj.cells #[.slice A2 (isort l).length c2] 22) = W6 := ⟨_, rfl⟩
    have hz6 : W6.heap.size = w5.heap.size + 1 := by rw [← hW6]; simp
    have hn6 : New W W6 := by rw [← hW6]; exact hn5'.alloc' _
    have hn56 : New w5 W6 := by rw [← hW6]; exact (New.rfl' w5).alloc' _
    have hs6 : rowOk W6 w5.heap.size = true ∧ rowAt W6 w5.heap.size = #[.slice A2 (isort l).length c2] := by
      rw [← hW6]; exact ⟨rowOk_alloc_at _ _ _ _ rfl, rowAt_alloc_at _ _ _ _ rfl⟩
    have hv6 : rowOk W6 W.heap.size = true ∧ rowAt W6 W.heap.size = #[.slice A v.length c] := by
      rw [rowOk_below hn56 _ (by omega), rowAt_below hn56 _ (by omega), rowOk_below hn5 _ (by simp only [World.size_alloc]; omega), rowAt_below hn5 _ (by simp only [World.size_alloc]; omega), rowOk_alloc_past _ _ _ (by simp only [World.size_alloc]; omega), rowAt_alloc_past _ _ _ (by simp only [World.size_alloc]; omega)]
      exact ⟨rowOk_alloc_at _ _ _ _ rfl, rowAt_alloc_at _ _ _ _ rfl⟩
    have hg6 : rowOk W6 (W.heap.size + 1) = true ∧ rowAt W6 (W.heap.size + 1) = #[.int .u8 gv] := by
      rw [rowOk_below hn56 _ (by omega), rowAt_below hn56 _ (by omega), rowOk_below hn5 _ (by simp only [World.size_alloc]; omega), rowAt_below hn5 _ (by simp only [World.size_alloc]; omega)]
      exact ⟨rowOk_alloc_at _ _ _ _ (by simp only [World.size_alloc]), rowAt_alloc_at _ _ _ _ (by simp only [World.size_alloc])⟩
    have hb06 : rowOk W6 b0 = true ∧ rowAt W6 b0 = #[u] := ⟨by rw [rowOk_below hn6 _ (by omega)]; exact hd1, by rw [rowAt_below hn6 _ (by omega)]; exact hd2⟩
    have hu6 : KO.Own W6 (b0 + 3) u p1 := hu.new hn6
    have hK6 : W6.heap[D]? = some (.deferred (some [])) := (hn6.block D hDW).trans hK
    have hub : ∀ k, u.ownBlock = some k → k ∉ [W.heap.size, W.heap.size + 1, gR, w5.heap.size, D] := by
      intro k e hm
      have h1 := hlu k e
      simp only [List.mem_cons, List.not_mem_nil, or_false] at hm
      have hk : k = D := by omega
      subst hk
      rcases hu.2 with ⟨rfl, _⟩ | ⟨g, cap, cur, rfl, _, hgc, _⟩
      · cases e
      · injection e with e
        have e : g = k := e
        subst e
        rw [hK] at hgc; cases hgc
    generalize hbs : [W.heap.size, W.heap.size + 1, gR, w5.heap.size, D] = bs at *
    have hbsm : ∀ b ∈ bs, b0 + 3 ≤ b ∧ b < W6.heap.size := by
      rw [← hbs]; intro b hb
      simp only [List.mem_cons, List.not_mem_nil, or_false] at hb
      omega
    have hsub : ∀ b ∈ [W.heap.size, W.heap.size + 1, gR], b ∈ bs := by
      rw [← hbs]; intro b hb
      simp only [List.mem_cons, List.not_mem_nil, or_false] at hb ⊢
      omega
    have hDbs : D ∈ bs := by rw [← hbs]; simp
    have hnw6 : New w W6 := hnW.trans (hn6.mono hnW.size)
    rw [hW6]
    clear hbs
    refine wpIn_rangeFunc_ownH rfl (by omega) (gf := 87) (lb := #[.pointer (some ⟨w5.heap.size, 0, none⟩), .pointer (some ⟨W.heap.size, 0, none⟩), .pointer (some ⟨W.heap.size + 1, 0, none⟩)]) rfl trivial (enters_of Try.func87 (by kernel_rfl) rfl)
      (encs := fun x : Opr => #[Value.agg (opA x)]) (Kp := KpL b0 [W.heap.size, W.heap.size + 1, gR]) (S := fun ys => ys = ((isort l).filter (newP v)).map (putO v gv)) (Sp := fun pre => pre <+: ((isort l).filter (newP v)).map (putO v gv)) (N := (((isort l).filter (newP v)).map (putO v gv)).length) (w0 := W6) ?hseq2 KpL.t (KpL.put (by omega) (by simp; omega)) (Below.refl _ _) (fun _ => rfl)
      (fun pre W' => (∃ u, (rowOk W' b0 = true ∧ rowAt W' b0 = #[u]) ∧ KO.Own W' (b0 + 3) u (p1 ++ pre) ∧ ∀ k, u.ownBlock = some k → k ∉ bs) ∧ KpL b0 bs W6 W')
      (fun _ _ _ => False)
      (OwnFrom.and (Own.from (aO_own2 _ _ _ _) _) (ownFrom_kpL (by omega) (by omega) (fun b hb => ⟨(hbsm b hb).2, (hbsm b hb).2⟩)))
      (fun _ _ _ _ _ hs _ _ => hs)
      ⟨⟨_, hb06, by rw [List.append_nil]; exact hu6, hub⟩, KpL.refl _ _ _⟩
      (fun x a' W' => ∃ Bx, b0 + 3 ≤ Bx ∧ rowOk W' Bx = true ∧ rowAt W' Bx = opA x ∧ a' = { tmps := #[.slice A v.length c, .slice B l.length d, .int .u8 gv, undef, undef, undef, .slice none 0 0, .pointer (some ⟨b0, 0, none⟩), undef, .pointer (some ⟨Bx, 0, none⟩), .slice A v.length c, .bool true, .bool false, .bool false, .slice B l.length d, .bool true, .bool false, .bool false, .slice A v.length c, .slice B l.length d, .func (.func 82) #[] #[.pointer (some ⟨b0 + 1, 0, none⟩), .pointer (some ⟨b0 + 1 + 1, 0, none⟩)], undef, undef, undef, undef, undef, .slice A v.length c, .slice B l.length d, .int .u8 gv, .func (.func 87) #[] #[.pointer (some ⟨w5.heap.size, 0, none⟩), .pointer (some ⟨W.heap.size, 0, none⟩), .pointer (some ⟨W.heap.size + 1, 0, none⟩)], .agg (opA x), undef, undef, undef, undef, undef], defers := [] })
      (fun x a' _ X Y row hs hg hr => by obtain ⟨Bx, h1, h2, h3, h4⟩ := hs; obtain ⟨k1, k2⟩ := row_kept h2 hg (fun r e => (hr r e).2); exact ⟨Bx, h1, k1, k2.trans h3, h4⟩)
      ?assign2 ?body2 ?done2 ?stop2
    case hseq2 =>
      intro l' J Jx X hX hJ _ hY h0
      rcases hgR with hnil | ⟨rfl, hgo, hgc⟩
      · have hs6' := hs6
        rw [hnil] at hs6' ⊢
        exact fresh2_nil 6 (by omega) l' w5.heap.size W.heap.size (W.heap.size + 1) c2 A2 J Jx X (by rw [rowAt_below hX _ (by omega)]; exact hs6'.2) (by rw [rowOk_below hX _ (by omega)]; exact hs6'.1) h0
      · exact fresh2_in 6 (by omega) l' w5.heap.size W.heap.size (W.heap.size + 1) b0 gR c2 A c v (isort l) gv g0 g1 hlv (by rw [isort_len]; exact hll) J Jx X w hJ hY
          (by rw [rowAt_below hX _ (by omega)]; exact hs6.2) (by rw [rowOk_below hX _ (by omega)]; exact hs6.1) (by rw [rowAt_below hX _ (by omega)]; exact hv6.2) (by rw [rowOk_below hX _ (by omega)]; exact hv6.1)
          (by rw [rowAt_below hX _ (by omega)]; exact hg6.2) (by rw [rowOk_below hX _ (by omega)]; exact hg6.1) (by rw [rowOk_below hX _ (by omega), rowOk_below hn56 _ (by omega)]; exact hgo)
          (fun k hk j hj => by rw [rowAt_below hX _ (by omega), rowAt_below hn56 _ (by omega)]; exact hgc k hk j hj) hv hsz2 (hnw6.trans (hX.mono hnw6.size)) (by have := hX.size; omega) h0
    case assign2 =>
      rintro l' pre x X K ⟨⟨u', ⟨hb1', hb2'⟩, hu', hnb⟩, hB'⟩ hK'
      have hlt := rowOk_lt X hb1'
      have hsz := hB'.1.size
      gi_wp2
      exact hK' _ _ ((KeepsOthers.alloc _ _).from _) ((KpL.refl _ _ X).new ((New.rfl' X).alloc' _) (by omega) (by intro b hb; have := (hbsm b (hsub b hb)).2; omega)) ⟨⟨u', ⟨by rw [rowOk_alloc_past X _ _ hlt]; exact hb1', by rw [rowAt_alloc_past X _ _ hlt]; exact hb2'⟩, hu'.alloc _, hnb⟩, hB'.new ((New.rfl' X).alloc' _) (by omega) (fun b hb => by have := (hbsm b hb).2; omega)⟩ ⟨X.heap.size, by omega, rowOk_alloc_at X _ _ _ rfl, rowAt_alloc_at X _ _ _ rfl, rfl⟩
    case body2 =>
      rintro l' pre x a' X hl' ⟨r, hr⟩ ⟨⟨u', ⟨hb1', hb2'⟩, hu', hnb⟩, hB'⟩ ⟨Bx, hBx, hx1, hx2, rfl⟩ hlt
      have hlt1 := rowOk_lt X hb1'
      have hlt2 := rowOk_lt X hx1
      have hsz := hB'.1.size
      have hpl : (p1 ++ pre).length < 2000 := by
        have h2 := List.length_filter_le (goneP l) v
        have h3 := List.length_filter_le (newP v) (isort l)
        rw [isort_len] at h3
        rw [List.length_append, ← hp1]; simp only [List.length_map] at hlt ⊢; omega
      have hne : ∀ k, k < b0 + 3 → u'.ownBlock ≠ some k := fun k hk e => by have := (World.ownsRow.lt hu' _ e).1; omega
      gi_wp2_with (gi_at_builtin; refine Kind.wpListIn_append1A rfl _ _ rfl rfl (hu'.alloc _) x X.heap.size rfl (rowOk_alloc_at X _ _ _ rfl) (rowAt_alloc_at X _ _ _ rfl) (by omega) KO_b (by simp only [World.size_alloc]; omega) ?_; intro v' w1 hv1 hg1' hvb; obtain ⟨A1, c1, rfl, _⟩ := hv1.form; have hk1 := (hg1'.block b0 (by simp only [World.size_alloc]; omega) (fun e => hne b0 (by omega) e.symm)); have hok1 : rowOk w1 b0 = true := (by unfold rowOk; rw [hk1]; exact (rowOk_alloc_past X _ _ hlt1).trans hb1'); have hra1 : rowAt w1 b0 = #[u'] := (by unfold rowAt; rw [hk1]; exact (rowAt_alloc_past X _ _ hlt1).trans hb2'))
      have hg1' : (X.alloc (Obj.cells (opA x) 48)).grownBy w1 u'.ownBlock := hg1'
      have hv1 : KO.Own w1 (b0 + 3) (.slice A1 (p1.length + (pre.length + 1)) c1) (p1 ++ (pre ++ [x])) := by have := hv1; rw [List.append_assoc, List.length_append, List.length_append] at this; exact this
      have hsz1 : X.heap.size + 1 ≤ w1.heap.size := by have := hg1'.size; simpa using this
      have hBW1 : Below b0 X w1 := Below.grown ((Below.refl _ X).alloc (by omega) _) hg1' (by simp only [World.size_alloc]; omega) (fun k e => by have := (World.ownsRow.lt hu' _ e).1; omega)
      have hBW2 := below_setRow hBW1 b0 #[Value.slice A1 (p1.length + (pre.length + 1)) c1] (Nat.le_refl _)
      have hoth : ∀ k ∈ bs, (w1.setRow b0 #[Value.slice A1 (p1.length + (pre.length + 1)) c1]).heap[k]? = X.heap[k]? := fun k hk => by
        have hkm := hbsm k hk
        rw [setRow_other w1 _ _ _ (by omega), hg1'.block k (by simp only [World.size_alloc]; omega) (fun e => hnb k e.symm hk), Below.heap_alloc X _ k (by omega)]
      have hKL : KpL b0 bs X (w1.setRow b0 #[Value.slice A1 (p1.length + (pre.length + 1)) c1]) := ⟨hBW2, hoth⟩
      have hnb1 : ∀ k, (Value.slice A1 (p1.length + (pre.length + 1)) c1).ownBlock = some k → k ∉ bs := by
        intro k e hm
        have e : (Value.slice A1 (p1 ++ pre ++ [x]).length c1).ownBlock = some k := by rw [List.append_assoc, List.length_append, List.length_append]; exact e
        rcases hvb with h | h
        · exact hnb k (h.symm.trans e) hm
        · have e2 := h.symm.trans e
          injection e2 with e2
          have := (hbsm k hm).2
          simp only [World.size_alloc] at e2
          omega
      refine ⟨⟨by rw [size_setRow']; omega, fun k o hBk hk hc => ?_⟩, hKL.sub hsub, ⟨_, ⟨by rw [rowOk_setRow]; exact hok1, rowAt_setRow w1 _ _ hok1⟩, World.ownsRow.kept hv1 (grown_setRow w1 b0 _) (.inr fun e => by have := (World.ownsRow.lt hv1 _ e).1; omega), hnb1⟩, hB'.t hKL⟩
      have hklt : k < X.heap.size := (Array.getElem?_eq_some_iff.1 hk).1
      rw [setRow_other w1 _ _ _ (by omega), hg1'.block k (by simp only [World.size_alloc]; omega) (fun e => ?_), Below.heap_alloc X _ k hklt]
      · exact hk
      · rcases hu'.2 with ⟨rfl, _⟩ | ⟨g, cap, cur, rfl, _, hgc, _⟩
        · cases e
        · injection e with e
          have e : k = g := e
          subst e
          rw [hgc] at hk; injection hk with hk; subst hk; cases hc
    case done2 =>
      rintro D2 ys X hD2 rfl ⟨⟨u', ⟨hb1', hb2'⟩, hu', hnb⟩, hB'⟩ hK2
      have hlt1 := rowOk_lt X hb1'
      gi_wp2
      have hKX : X.heap[D]? = some (.deferred (some [])) := (hB'.2 D hDbs).trans hK6
      have hKX2 : (X.putObj D2 (.deferred none)).heap[D]? = some (.deferred (some [])) := (World.putObj_heap_other (by omega)).trans hKX
      refine ⟨by simp, .inl ⟨_, _, rfl, run_takeDeferred hK2, ?_⟩⟩
      refine ⟨by simp, .inl ⟨_, _, rfl, run_takeDeferred hKX2, ?_⟩⟩
      refine ⟨_, results_tmp rfl _ _ _, u', rfl, ?_, ?_⟩
      · have h4 : KO.Own (X.putObj D2 (.deferred none)) (b0 + 3) u' (p1 ++ ((isort l).filter (newP v)).map (putO v gv)) := hu'.keptNC (grownBy_putObj' X D2 _) (fun r e => by cases e; exact ⟨_, hK2, rfl⟩)
        have h5 : KO.Own ((X.putObj D2 (.deferred none)).putObj D (.deferred none)) (b0 + 3) u' (p1 ++ ((isort l).filter (newP v)).map (putO v gv)) := h4.keptNC (grownBy_putObj' _ D _) (fun r e => by cases e; exact ⟨_, hKX2, rfl⟩)
        rw [hp1]
        exact h5.lower (by omega)
      · have h1 : New w X := hnw6.trans (hB'.1.mono hsz2)
        have h2 : Below w.heap.size X (X.putObj D2 (.deferred none)) := belowK_b (w := w) (Nat.le_refl _) X D2 _ _ (by omega) hK2 rfl rfl
        have h3 : Below w.heap.size (X.putObj D2 (.deferred none)) ((X.putObj D2 (.deferred none)).putObj D (.deferred none)) := belowK_b (w := w) (Nat.le_refl _) _ D _ _ (by omega) hKX2 rfl rfl
        exact (Below.trans h1 h2).trans h3
    case stop2 =>
      rintro D2 c' pre X _ _ h _
      exact h.elim
  case stop =>
    rintro D c pre W _ _ h _
    exact h.elim
end Go.Proofs.Ytkgebhmlogddcaa
/- Contracts: slices.Clone at operations, view.First, view.Told. -/
namespace Go.Proofs.Ytkgebhmlogddcaa
open Go.RowKit
set_option linter.unusedSimpArgs false
attribute [local go_sem] rowAt_alloc_at rowAt_alloc_past rowOk_alloc_at rowOk_alloc_past rowAt_drew rowOk_drew setRow_alloc_at setRow_alloc_past rowAt_setRow rowAt_setRow_far rowOk_setRow cell_rowOk frozen_rowOk setCell_rowOk setRow_setRow con_fold con_get con_size con_set set_all none8_cells equalIn_con storeCells_con
attribute [local go_sem] it_size it_0 it_1 it_2 it_3 it_4 it_5 it_6 it_7 it_8 it_9 it_10 it_set0 it_set1 it_set2 it_fold it_zero it_eta it_fill run_storeCells_it
attribute [local go_sem] sn_size sn_0 sn_1 sn_set0 sn_set1 sn_fold sn_eta sn_fill run_storeCells_sn eqg_sn eqg_it
attribute [local go_sem high] equalIn_sn equalIn_it
attribute [local go_sem] run_eql_slice_nil op_size op_0 op_1 op_2 op_3 op_4 op_5 op_6 op_7 op_8 op_9 op_10 op_11 op_con op_fold op_eta run_storeCells_op

set_option maxHeartbeats 800000 in
set_option maxRecDepth 100000 in
theorem cloneO_any (A : Option Addr) (n c : Nat) (l : List Opr) (w : World) (hl : KO.Rd w A n l) (hn : n ≤ 1000) :
    Calls Try.prog 76 #[.slice A n c] w fun e w' => ∃ v, e = .returned v ∧ KO.Own w' w.heap.size v l ∧ New w w' := by
  obtain rfl : l.length = n := hl.1
  cases A with
  | none =>
    have hm : l = [] := by
      cases l with
      | nil => rfl
      | cons x m => obtain ⟨b, o, h, _⟩ := hl.2 (by simp); cases h
    subst hm
    go_enter Try.func76, Try.ntmps76
    go_wp2_with fail
    go_ret
    exact ⟨_, rfl, Kind.Own.nil, New.rfl' w⟩
  | some ad =>
    go_enter Try.func76, Try.ntmps76
    go_wp2_with (first
      | (at_builtin; refine Kind.wpList_appendN rfl _ _ rfl rfl (Kind.Own.empty KO w) rfl (hl.alloc _) (by simp; omega) KO_b (by simp only [World.size_alloc]; omega) ?_; intro v' w2 hv hg; have hr : New w w2 := Kind.Own.grown ((New.rfl' w).alloc' _) (Kind.Own.empty KO w) hg; rw [List.nil_append] at hv; clear hg))
    go_ret
    exact ⟨_, rfl, hv, hr⟩

/-- how many are the first ones -/
def firstN (wd : Int) (n : Nat) : Nat := min wd.toNat n
set_option maxHeartbeats 800000 in
set_option maxRecDepth 100000 in
theorem first_any (A : Option Addr) (n c : Nat) (l : List Opr) (wd : Int) (w : World) (hl : KO.Rd w A n l) (hc : n ≤ c) (hn : n ≤ 1000) :
    Calls Try.prog 62 #[.slice A n c, .int .i64 wd] w fun e w' => ∃ v, e = .returned (.tuple #[v, .bool (decide (firstN wd n < n))]) ∧ KO.Own w' w.heap.size v (l.take (firstN wd n)) ∧ New w w' := by
  obtain rfl : l.length = n := hl.1
  have hk : firstN wd l.length ≤ l.length := Nat.min_le_right _ _
  have hR := fun w' (h : New w w') => (hl.new h).upto (k := firstN wd l.length) hk
  have hmm : min (max wd 0) (l.length : Int) = ((firstN wd l.length : Nat) : Int) := by unfold firstN; omega
  have hdec : decide ((firstN wd l.length : Int) < (l.length : Int)) = decide (firstN wd l.length < l.length) := by simp
  generalize firstN wd l.length = k at *
  go_enter Try.func62, Try.ntmps62
  go_wp2_with (first
    | (go_at_call 76; refine (cloneO_any _ _ _ (l.take k) _ (hR _ (New.rfl' w)) (by omega)).mono ?_; rintro e w1 ⟨v, rfl, hv, hb⟩))
  go_ret2
  exact ⟨_, rfl, hv, hb⟩
end Go.Proofs.Ytkgebhmlogddcaa
/- Contracts of the layer view: Pending as a plain call; Told. -/
namespace Go.Proofs.Ytkgebhmlogddcaa
open Go.RowKit Go.Shelf
set_option linter.unusedSimpArgs false
attribute [local go_sem] rowAt_alloc_at rowAt_alloc_past rowOk_alloc_at rowOk_alloc_past rowAt_drew rowOk_drew setRow_alloc_at setRow_alloc_past rowAt_setRow rowAt_setRow_far rowOk_setRow cell_rowOk frozen_rowOk setCell_rowOk setRow_setRow con_fold con_get con_size con_set set_all none8_cells equalIn_con storeCells_con
attribute [local go_sem] it_size it_0 it_1 it_2 it_3 it_4 it_5 it_6 it_7 it_8 it_9 it_10 it_set0 it_set1 it_set2 it_fold it_zero it_eta it_fill run_storeCells_it
attribute [local go_sem] sn_size sn_0 sn_1 sn_set0 sn_set1 sn_fold sn_eta sn_fill run_storeCells_sn eqg_sn eqg_it
attribute [local go_sem high] equalIn_sn equalIn_it
attribute [local go_sem] op_size op_0 op_1 op_2 op_3 op_4 op_5 op_6 op_7 op_8 op_9 op_10 op_11 op_con op_fold op_fold0 op_fillz op_set0 op_set1 op_set2 op_set3 op_ne op_fillC op_eta run_storeCells_op it_extr

theorem vpend_any (A : Option Addr) (c : Nat) (v : List Sn) (B : Option Addr) (d : Nat) (l : List It) (gv : Int) (g0 : 0 ≤ gv) (g1 : gv < 256) (hlv : v.length ≤ 1000) (hll : l.length ≤ 1000) (hso : SortOk l) (w : World) (hv : KS.Rd w A v.length v) (hl : KI.Rd w B l.length l) (hmv : risS 0 v = true) (hml : mayI l = true) :
    Calls Try.prog 45 #[.slice A v.length c, .slice B l.length d, .int .u8 gv] w fun e w' => ∃ u, e = .returned u ∧ KO.Own w' w.heap.size u ((v.filter (goneP l)).map delO ++ ((isort l).filter (newP v)).map (putO v gv)) ∧ New w w' :=
  (callsIn_wide (n := 7)).1 (vpend_in A c v B d l gv g0 g1 hlv hll hso w hv hl hmv hml)

def toldStep (l : List It) (out : List Sn) (op : Opr) : List Sn :=
  if op.1 = 3 then dropS out op.2.2.1 else if (findI l op.2.2.1).isSome = true ∧ (op.1 = 1 ∨ op.1 = 2) then setS out ((findI l op.2.2.1).getD itZ).1 ((findI l op.2.2.1).getD itZ).2.2.1 else out
def toldO (v : List Sn) (l : List It) (ops : List Opr) : List Sn := ops.foldl (toldStep l) v
theorem dropS_len (l : List Sn) (id : Int) : (dropS l id).length ≤ l.length := by
  unfold dropS; split
  · exact List.length_filter_le _ _
  · simp
theorem setS_len (l : List Sn) (id s : Int) : (setS l id s).length ≤ l.length + 1 := by
  unfold setS
  split
  · split
    · omega
    · split
      · simp
      · simp only [List.length_append, List.length_take, List.length_drop, List.length_cons, List.length_nil]; omega
  · simp
theorem toldStep_len (l : List It) (out : List Sn) (op : Opr) : (toldStep l out op).length ≤ out.length + 1 := by
  unfold toldStep
  split
  · have := dropS_len out op.2.2.1; omega
  · split
    · exact setS_len _ _ _
    · omega
theorem toldO_step (v : List Sn) (l : List It) (ops : List Opr) (k : Nat) (hk : k < ops.length) : toldO v l (ops.take (k + 1)) = toldStep l (toldO v l (ops.take k)) ops[k] := by
  unfold toldO
  rw [List.take_succ_eq_append_getElem hk, List.foldl_append]; rfl
theorem toldO_len (v : List Sn) (l : List It) (ops : List Opr) (k : Nat) (hk : k ≤ ops.length) : (toldO v l (ops.take k)).length ≤ v.length + k := by
  induction k with
  | zero => simp [toldO]
  | succ k ih =>
    rw [toldO_step v l ops k (by omega)]
    have := toldStep_len l (toldO v l (ops.take k)) ops[k]
    have := ih (by omega)
    omega
set_option maxHeartbeats 1600000 in
set_option maxRecDepth 100000 in
theorem vtold_any (A : Option Addr) (c : Nat) (v : List Sn) (B : Option Addr) (d : Nat) (l : List It) (O : Option Addr) (oc : Nat) (ops : List Opr) (hlv : v.length + ops.length ≤ 1000) (hll : l.length ≤ 1000) (w : World) (hv : KS.Rd w A v.length v) (hl : KI.Rd w B l.length l) (ho : KO.Rd w O ops.length ops) (hmv : risS 0 v = true) (hml : mayI l = true) :
    Calls Try.prog 44 #[.slice A v.length c, .slice B l.length d, .slice O ops.length oc] w fun e w' => ∃ u, e = .returned u ∧ KS.Own w' w.heap.size u (toldO v l ops) ∧ New w w' := by
  have hA1 := vmay_any A v.length c v
  rw [hmv] at hA1
  have HA := Lib.hid hA1
  have hB1 := imay_any B l.length d l
  rw [hml] at hB1
  have HB := Lib.hid hB1
  clear hA1 hB1
  have hv0 := hv
  have hl0 := hl
  have ho0 := ho
  go_enter Try.func44, Try.ntmps44
  have hwA := fun w' (h : New w w') n hn => rowAt_below h n hn
  have hwO := fun w' (h : New w w') n hn => rowOk_below h n hn
  have hwS := fun w' (h : New w w') n (hn : n < w.heap.size) => eq_true (Nat.lt_of_lt_of_le hn h.size)
  go_wp2_with (first
    | (go_at_call 42; refine (HA.out _ hv (by omega)).mono ?_; rintro e w1 ⟨rfl, hb1⟩)
    | (go_at_call 21; refine (HB.out _ (hl.new hb1) (by omega)).mono ?_; rintro e w2 ⟨rfl, hb⟩; have hb2 := New.call hb1 hb; clear hb)
    | (go_at_call 57; refine (cloneS_any _ _ _ v _ (hv.new hb2) (by omega)).mono ?_; rintro e w3 ⟨u0, rfl, hu0, hb⟩; have hb3 := New.call hb2 hb; have hu3 := hu0.lower hb2.size; clear hb hu0))
  -- LOOP
  clear hv ho hl
  go_loopw [7, 24] (fun u i wr => ∃ k : Nat, k ≤ ops.length ∧ i = .int .i64 k ∧ New w wr ∧ KS.Own wr w.heap.size u (toldO v l (ops.take k))) (fun _ i _ => ops.length - (intOf i).toNat)
  case atStart => exact ⟨0, by omega, rfl, hb3, by simpa [toldO] using hu3⟩
  case round =>
    obtain ⟨k, hk, rfl, hr, hu⟩ := hrel
    by_cases hlt : k < ops.length
    · have hst := toldO_step v l ops k hlt
      have hlen := toldO_len v l ops k (by omega)
      have hF1 := iFind_any B l.length d l ops[k].2.2.1
      have ho := ho0
      obtain ⟨bho, oho, rfl, hbho, hcho⟩ := ho.2 (by omega)
      have hrho : ∀ w', New w w' → ∀ k (hk : k < ops.length), w'.cell? ⟨bho, oho + k * 12, none⟩ = (opA ops[k])[0]? := fun w' hw k hk => (hw.cell (p := ⟨bho, _, none⟩) hbho).trans (hcho k hk 0 (by decide))
      have hsho : ∀ w', New w w' → ∀ k (hk : k < ops.length) j, j < 12 → w'.cell? ⟨bho, oho + k * 12 + j, none⟩ = (opA ops[k])[j]? := fun w' hw k hk j hj => (hw.cell (p := ⟨bho, _, none⟩) hbho).trans (hcho k hk j hj)
      clear hcho
      unfold toldStep at hst
      generalize toldO v l (ops.take k) = L at *
      obtain ⟨Au, cu, rfl, hcu, hRu⟩ := hu.rd
      generalize (findI l ops[k].2.2.1).isSome = it at *
      generalize (findI l ops[k].2.2.1).getD itZ = x at *
      have hro := hrho _ hr k hlt
      have hso := fun w' (h : New w w') j hj => hsho w' h k hlt j hj
      clear hrho hsho
      generalize ops[k] = op at *
      obtain ⟨ok, ocl, oi, ogv, of⟩ := op
      dsimp only at hst hF1
      have HF := Lib.hid hF1
      clear hF1
      by_cases h3 : ok = 3
      · have hst2 := Lib.hid (hst.trans (if_pos h3)); clear hst
        have h3' := Lib.hid h3; clear h3
        have H1 := Lib.hid trivial; have H2 := Lib.hid trivial; have H3 := Lib.hid h3'.out
        go_wp2_with (first
          | (go_at_call 22; refine (HF.out _ (hl0.new (hr.alloc' _)) (by omega)).mono ?_; rintro e w4 ⟨rfl, hb⟩; have hr4 := (hr.alloc' _).call hb; have hA4 := rowAt_below hb wr.heap.size (by simp only [World.size_alloc]; omega); have hO4 := rowOk_below hb wr.heap.size (by simp only [World.size_alloc]; omega); simp only [rowAt_alloc_at _ _ _ _ rfl, rowOk_alloc_at _ _ _ _ rfl] at hA4 hO4; have hz4 : wr.heap.size < w4.heap.size := (by have := hb.size; simp only [World.size_alloc] at this; omega); have hRu4 := (hRu.alloc _).new hb; have hu4 := (hu.alloc _).new hb; have hk1 := H1.out; have hk2 := H2.out; have hk3 := H3.out; clear hb)
          | (go_at_call 41; refine (vdrop_any _ _ _ L _ _ (hRu4.alloc _) (by omega)).mono ?_; rintro e w5 ⟨u5, rfl, hu5, hb⟩; have hr5 := (hr4.alloc' _).call hb; clear hb))
        go_roundw
        case rel => exact ⟨k + 1, by omega, by go_num, hr5, by rw [hst2.out]; exact hu5.lower (by have := hr4.size; simp only [World.size_alloc]; omega)⟩
        case measure => simp [intOf]; omega
      · rw [if_neg h3] at hst
        cases it
        · have hst2 := Lib.hid (hst.trans (if_neg (by simp))); clear hst
          have H1 := Lib.hid trivial; have H2 := Lib.hid trivial; have H3 := Lib.hid h3
          go_wp2_with (first
            | (go_at_call 22; refine (HF.out _ (hl0.new (hr.alloc' _)) (by omega)).mono ?_; rintro e w4 ⟨rfl, hb⟩; have hr4 := (hr.alloc' _).call hb; have hA4 := rowAt_below hb wr.heap.size (by simp only [World.size_alloc]; omega); have hO4 := rowOk_below hb wr.heap.size (by simp only [World.size_alloc]; omega); simp only [rowAt_alloc_at _ _ _ _ rfl, rowOk_alloc_at _ _ _ _ rfl] at hA4 hO4; have hz4 : wr.heap.size < w4.heap.size := (by have := hb.size; simp only [World.size_alloc] at this; omega); have hRu4 := (hRu.alloc _).new hb; have hu4 := (hu.alloc _).new hb; have hk1 := H1.out; have hk2 := H2.out; have hk3 := H3.out; clear hb))
          go_roundw
          case rel => exact ⟨k + 1, by omega, by go_num, hr4.alloc' _, by rw [hst2.out]; exact hu4.alloc _⟩
          case measure => simp [intOf]; omega
        · by_cases h1 : ok = 1
          · have hst2 := Lib.hid (hst.trans (if_pos ⟨rfl, .inl h1⟩)); clear hst
            have h1' := Lib.hid h1; clear h1
            have H1 := Lib.hid h1'.out; have H2 := Lib.hid trivial; have H3 := Lib.hid h3
            go_wp2_with (first
              | (go_at_call 22; refine (HF.out _ (hl0.new (hr.alloc' _)) (by omega)).mono ?_; rintro e w4 ⟨rfl, hb⟩; have hr4 := (hr.alloc' _).call hb; have hA4 := rowAt_below hb wr.heap.size (by simp only [World.size_alloc]; omega); have hO4 := rowOk_below hb wr.heap.size (by simp only [World.size_alloc]; omega); simp only [rowAt_alloc_at _ _ _ _ rfl, rowOk_alloc_at _ _ _ _ rfl] at hA4 hO4; have hz4 : wr.heap.size < w4.heap.size := (by have := hb.size; simp only [World.size_alloc] at this; omega); have hRu4 := (hRu.alloc _).new hb; have hu4 := (hu.alloc _).new hb; have hk1 := H1.out; have hk2 := H2.out; have hk3 := H3.out; clear hb)
              | (go_at_call 40; refine (vset_any _ _ _ L _ _ _ (hRu4.alloc _) (by omega)).mono ?_; rintro e w5 ⟨u5, rfl, hu5, hb⟩; have hr5 := (hr4.alloc' _).call hb; clear hb))
            go_roundw
            case rel => exact ⟨k + 1, by omega, by go_num, hr5, by rw [hst2.out]; exact hu5.lower (by have := hr4.size; simp only [World.size_alloc]; omega)⟩
            case measure => simp [intOf]; omega
          · by_cases h2 : ok = 2
            · have hst2 := Lib.hid (hst.trans (if_pos ⟨rfl, .inr h2⟩)); clear hst
              have h2' := Lib.hid h2; clear h2
              have H1 := Lib.hid h1; have H2 := Lib.hid h2'.out; have H3 := Lib.hid h3
              go_wp2_with (first
                | (go_at_call 22; refine (HF.out _ (hl0.new (hr.alloc' _)) (by omega)).mono ?_; rintro e w4 ⟨rfl, hb⟩; have hr4 := (hr.alloc' _).call hb; have hA4 := rowAt_below hb wr.heap.size (by simp only [World.size_alloc]; omega); have hO4 := rowOk_below hb wr.heap.size (by simp only [World.size_alloc]; omega); simp only [rowAt_alloc_at _ _ _ _ rfl, rowOk_alloc_at _ _ _ _ rfl] at hA4 hO4; have hz4 : wr.heap.size < w4.heap.size := (by have := hb.size; simp only [World.size_alloc] at this; omega); have hRu4 := (hRu.alloc _).new hb; have hu4 := (hu.alloc _).new hb; have hk1 := H1.out; have hk2 := H2.out; have hk3 := H3.out; clear hb)
                | (go_at_call 40; refine (vset_any _ _ _ L _ _ _ (hRu4.alloc _) (by omega)).mono ?_; rintro e w5 ⟨u5, rfl, hu5, hb⟩; have hr5 := (hr4.alloc' _).call hb; clear hb))
              go_roundw
              case rel => exact ⟨k + 1, by omega, by go_num, hr5, by rw [hst2.out]; exact hu5.lower (by have := hr4.size; simp only [World.size_alloc]; omega)⟩
              case measure => simp [intOf]; omega
            · have hst2 := Lib.hid (hst.trans (if_neg (fun h => by rcases h.2 with h | h <;> omega))); clear hst
              have H1 := Lib.hid (show (ok == 1) = false from beq_eq_false_iff_ne.2 h1); have H2 := Lib.hid (show (ok == 2) = false from beq_eq_false_iff_ne.2 h2); have H3 := Lib.hid h3
              go_wp2_with (first
                | (go_at_call 22; refine (HF.out _ (hl0.new (hr.alloc' _)) (by omega)).mono ?_; rintro e w4 ⟨rfl, hb⟩; have hr4 := (hr.alloc' _).call hb; have hA4 := rowAt_below hb wr.heap.size (by simp only [World.size_alloc]; omega); have hO4 := rowOk_below hb wr.heap.size (by simp only [World.size_alloc]; omega); simp only [rowAt_alloc_at _ _ _ _ rfl, rowOk_alloc_at _ _ _ _ rfl] at hA4 hO4; have hz4 : wr.heap.size < w4.heap.size := (by have := hb.size; simp only [World.size_alloc] at this; omega); have hRu4 := (hRu.alloc _).new hb; have hu4 := (hu.alloc _).new hb; have hk1 := H1.out; have hk2 := H2.out; have hk3 := H3.out; clear hb))
              go_roundw
              case rel => exact ⟨k + 1, by omega, by go_num, hr4.alloc' _, by rw [hst2.out]; exact hu4.alloc _⟩
              case measure => simp [intOf]; omega
    · go_wp2_with fail
      rw [List.take_of_length_le (by omega)] at hu
      go_ret
      exact ⟨_, rfl, hu, hr⟩
end Go.Proofs.Ytkgebhmlogddcaa
