/- Contracts of the layer view: what is pending. -/
import Derived.Test.YtkgebhmlogddcaaMake
import Derived.Test.YtkgebhmlogddcaaAppA
namespace Go.Proofs.Ytkgebhmlogddcaa
open Go.RowKit Go.Shelf
set_option linter.unusedSimpArgs false
attribute [local go_sem] Oper.semAt_some
attribute [local go_sem] rowAt_alloc_at rowAt_alloc_past rowOk_alloc_at rowOk_alloc_past rowAt_drew rowOk_drew setRow_alloc_at setRow_alloc_past rowAt_setRow rowAt_setRow_far rowOk_setRow cell_rowOk frozen_rowOk setCell_rowOk setRow_setRow con_fold con_get con_size con_set set_all none8_cells equalIn_con storeCells_con
attribute [local go_sem] it_size it_0 it_1 it_2 it_3 it_4 it_5 it_6 it_7 it_8 it_9 it_10 it_set0 it_set1 it_set2 it_fold it_zero it_eta it_fill run_storeCells_it
attribute [local go_sem] sn_size sn_0 sn_1 sn_set0 sn_set1 sn_fold sn_eta sn_fill run_storeCells_sn eqg_sn eqg_it
attribute [local go_sem high] equalIn_sn equalIn_it
attribute [local go_sem] op_size op_0 op_1 op_2 op_3 op_4 op_5 op_6 op_7 op_8 op_9 op_10 op_11 op_con op_fold op_fold0 op_fillz op_set0 op_set1 op_set2 op_set3 op_ne op_fillC op_eta run_storeCells_op it_extr

theorem aO_own (Bs base : Nat) : Go.Own (fun (pre : List Opr) (W : World) => ∃ v, (rowOk W Bs = true ∧ rowAt W Bs = #[v]) ∧ KO.Own W base v pre) := by
  intro pre W W' row hs hg hr
  obtain ⟨v, ⟨h1, h2⟩, h3⟩ := hs
  obtain ⟨k1, k2⟩ := row_kept h1 hg hr
  exact ⟨v, ⟨k1, k2.trans h2⟩, h3.keptNC hg hr⟩
theorem fresh2_nil (n : Nat) (_ : 1 ≤ n) (ll Bs Bv Bg cR : Nat) (A : Option Addr) (J Jx : List Opr → World → Prop) (W : World)
    (hBs : rowAt W Bs = #[.slice A 0 cR]) (hoks : rowOk W Bs = true) (h0 : J [] W) :
    CallsIn Fence.wide n Try.prog 87 #[.func (.yield ll) #[] #[], .pointer (some ⟨Bs, 0, none⟩), .pointer (some ⟨Bv, 0, none⟩), .pointer (some ⟨Bg, 0, none⟩)] W fun e W' => (∃ v, e = .returned v) ∧
      ((∃ ys, ys = ([] : List Opr) ∧ J ys W') ∨ (∃ pre, pre <+: ([] : List Opr) ∧ Jx pre W')) := by
  have hBlt := rowOk_lt W hoks
  refine callsIn_of_wp Try.func87 rfl trivial ?_ rfl
  simp only [Try.ntmps87, List.size_toArray, List.length_cons, List.length_nil, Nat.reduceAdd, Nat.reduceSub, Array.replicate_succ, Array.replicate_zero, List.push_toArray, List.append_toArray, List.nil_append, List.cons_append]
  gi_wp2
  gi_loopw [12] (fun i wr => i = .int .i64 0 ∧ wr = W) (fun _ _ => 0)
  case atStart => exact ⟨rfl, rfl⟩
  case round =>
    obtain ⟨rfl, rfl⟩ := hrel
    gi_wp2
    go_end0
    exact ⟨⟨_, rfl⟩, .inl ⟨_, rfl, h0⟩⟩
theorem KpL.sub {n₀ : Nat} {bs bs' : List Nat} {A B : World} (h : KpL n₀ bs A B) (hs : ∀ b ∈ bs', b ∈ bs) : KpL n₀ bs' A B := ⟨h.1, fun b hb => h.2 b (hs b hb)⟩
theorem ownFrom_kpL {β : Type} {n₀ B : Nat} {bs : List Nat} {w₀ : World} (hn : n₀ ≤ w₀.heap.size) (hB : n₀ ≤ B) (hb : ∀ b ∈ bs, b < B ∧ b < w₀.heap.size) : OwnFrom B (fun (_ : β) W => KpL n₀ bs w₀ W) :=
  fun _ X Y row hs hg hr => ⟨hs.1.grown hg (Nat.le_trans hn hs.1.size) (fun k e => Nat.le_trans hB (hr k e).1), fun b hbb => by
    refine (hg.block b (Nat.lt_of_lt_of_le (hb b hbb).2 hs.1.size) (fun e => ?_)).trans (hs.2 b hbb)
    have := (hr b e.symm).1; have := (hb b hbb).1; omega⟩
theorem aO_own2 (Bs base : Nat) (p1 : List Opr) (bs : List Nat) : Go.Own (fun (pre : List Opr) (W : World) => ∃ v, (rowOk W Bs = true ∧ rowAt W Bs = #[v]) ∧ KO.Own W base v (p1 ++ pre) ∧ ∀ k, v.ownBlock = some k → k ∉ bs) := by
  intro pre W W' row hs hg hr
  obtain ⟨v, ⟨h1, h2⟩, h3, h4⟩ := hs
  obtain ⟨k1, k2⟩ := row_kept h1 hg hr
  exact ⟨v, ⟨k1, k2.trans h2⟩, h3.keptNC hg hr, h4⟩
set_option maxRecDepth 100000 in
set_option maxHeartbeats 2000000 in
theorem vpend_in (A : Option Addr) (c : Nat) (v : List Sn) (B : Option Addr) (d : Nat) (l : List It) (gv : Int) (g0 : 0 ≤ gv) (g1 : gv < 256) (hlv : v.length ≤ 1000) (hll : l.length ≤ 1000) (hso : SortOk l) (w : World) (hv : KS.Rd w A v.length v) (hl : KI.Rd w B l.length l) (hmv : risS 0 v = true) (hml : mayI l = true) :
    CallsIn Fence.wide 7 Try.prog 45 #[.slice A v.length c, .slice B l.length d, .int .u8 gv] w fun e w' => ∃ u, e = .returned u ∧ KO.Own w' w.heap.size u ((v.filter (goneP l)).map delO ++ ((isort l).filter (newP v)).map (putO v gv)) ∧ New w w' := by
  have HA1 := vmay_any A v.length c v
  rw [hmv] at HA1
  have HA := Lib.hid HA1
  have HB1 := imay_any B l.length d l
  rw [hml] at HB1
  have HB := Lib.hid HB1
  clear HA1 HB1
  refine callsIn_of_wp_marks Try.func45 rfl trivial ?_ rfl
  simp only [Try.ntmps45, List.size_toArray, List.length_cons, List.length_nil, Nat.reduceAdd, Nat.reduceSub, Array.replicate_succ, Array.replicate_zero, List.push_toArray, List.append_toArray, List.nil_append, List.cons_append]
  gi_wp2_with (first
    | (refine ⟨trivial, ?_⟩; gi_at_call 42; refine (callsIn_wide.2 (HA.out _ hv (by omega))).mono ?_; rintro e w1 ⟨rfl, hb1⟩)
    | (refine ⟨trivial, ?_⟩; gi_at_call 21; refine (callsIn_wide.2 (HB.out _ (hl.new hb1) (by omega))).mono ?_; rintro e w2 ⟨rfl, hb⟩; have hb2 := New.call hb1 hb; clear hb)
    | (refine ⟨trivial, ?_⟩; gi_at_call 67; refine (callsIn_wide.2 (gone_any _ _ _ _ _ _ _)).mono ?_; rintro e w3 ⟨rfl, rfl⟩))
  have hsz2 := hb2.size
  generalize hb0 : w2.heap.size = b0 at *
  have hW3 : ∃ W3, ((w2.alloc (Obj.cells #[.slice none 0 0] 71)).alloc (Obj.cells #[.slice A v.length c] 46)).alloc (Obj.cells #[.slice B l.length d] 22) = W3 := ⟨_, rfl⟩
  obtain ⟨W3, hW3⟩ := hW3
  have hz3 : W3.heap.size = b0 + 3 := by rw [← hW3]; simp [hb0]
  have hB3 : Below b0 w2 W3 := by rw [← hW3, ← hb0]; exact (((New.rfl' w2).alloc' _).alloc' _).alloc' _
  have hr0 : rowOk W3 b0 = true ∧ rowAt W3 b0 = #[.slice none 0 0] := by
    rw [← hW3]
    exact ⟨by rw [rowOk_alloc_past _ _ _ (by simp [hb0]; omega), rowOk_alloc_past _ _ _ (by simp [hb0])]; exact rowOk_alloc_at w2 _ _ _ hb0.symm, by rw [rowAt_alloc_past _ _ _ (by simp [hb0]; omega), rowAt_alloc_past _ _ _ (by simp [hb0])]; exact rowAt_alloc_at w2 _ _ _ hb0.symm⟩
  have hr1 : rowOk W3 (b0 + 1) = true ∧ rowAt W3 (b0 + 1) = #[.slice A v.length c] := by
    rw [← hW3]
    exact ⟨by rw [rowOk_alloc_past _ _ _ (by simp [hb0])]; exact rowOk_alloc_at _ _ _ _ (by simp [hb0]), by rw [rowAt_alloc_past _ _ _ (by simp [hb0])]; exact rowAt_alloc_at _ _ _ _ (by simp [hb0])⟩
  have hr2 : rowOk W3 (b0 + 1 + 1) = true ∧ rowAt W3 (b0 + 1 + 1) = #[.slice B l.length d] := by
    rw [← hW3]
    exact ⟨rowOk_alloc_at _ _ _ _ (by simp [hb0]), rowAt_alloc_at _ _ _ _ (by simp [hb0])⟩
  rw [hW3]
  clear hW3
  refine wpIn_rangeFunc_ownH rfl (by omega) (gf := 82) (lb := #[.pointer (some ⟨b0 + 1, 0, none⟩), .pointer (some ⟨b0 + 1 + 1, 0, none⟩)]) rfl trivial (enters_of Try.func82 (by kernel_rfl) rfl)
    (encs := fun x : Opr => #[Value.agg (opA x)]) (Kp := KpL b0 [b0 + 1 + 1]) (S := fun ys => ys = (v.filter (goneP l)).map delO) (Sp := fun pre => pre <+: (v.filter (goneP l)).map delO) (N := ((v.filter (goneP l)).map delO).length) (w0 := W3) ?hseq KpL.t (KpL.put (by omega) (by simp; omega)) (Below.refl _ _) (fun _ => rfl)
    (fun pre W => (∃ u, (rowOk W b0 = true ∧ rowAt W b0 = #[u]) ∧ KO.Own W (b0 + 3) u pre) ∧ Below b0 W3 W)
    (fun _ _ _ => False)
    (OwnFrom.and (Own.from (aO_own _ _) _) (ownFrom_below (by omega) (by omega)))
    (fun _ _ _ _ _ hs _ _ => hs)
    ⟨⟨_, hr0, Kind.Own.nil⟩, Below.refl _ _⟩
    (fun x a' W => ∃ Bx, b0 + 3 ≤ Bx ∧ rowOk W Bx = true ∧ rowAt W Bx = opA x ∧ a' = { tmps := #[.slice A v.length c, .slice B l.length d, .int .u8 gv, undef, undef, undef, .slice none 0 0, .pointer (some ⟨b0, 0, none⟩), .pointer (some ⟨Bx, 0, none⟩), undef, .slice A v.length c, .bool true, .bool false, .bool false, .slice B l.length d, .bool true, .bool false, .bool false, .slice A v.length c, .slice B l.length d, .func (.func 82) #[] #[.pointer (some ⟨b0 + 1, 0, none⟩), .pointer (some ⟨b0 + 1 + 1, 0, none⟩)], .agg (opA x), undef, undef, undef, undef, undef, undef, undef, undef, undef, undef, undef, undef, undef, undef], defers := [] })
    (fun x a' _ X Y row hs hg hr => by obtain ⟨Bx, h1, h2, h3, h4⟩ := hs; obtain ⟨k1, k2⟩ := row_kept h2 hg (fun r e => (hr r e).2); exact ⟨Bx, h1, k1, k2.trans h3, h4⟩)
    ?assign ?body ?done ?stop
  case hseq =>
    intro l' J Jx W hW hJ _ hY h0
    exact gone1_in 6 (by omega) l' (b0 + 1) (b0 + 1 + 1) b0 A c v B d l hlv (by omega) J Jx W w hJ hY (by rw [rowAt_below hW _ (by omega)]; exact hr1.2) (by rw [rowOk_below hW _ (by omega)]; exact hr1.1) (by rw [rowAt_below hW _ (by omega)]; exact hr2.2) (by rw [rowOk_below hW _ (by omega)]; exact hr2.1) hv hl hsz2 (hb2.trans ((hB3.mono hsz2).trans (hW.mono (by omega)))) (by have := hW.size; omega) h0
  case assign =>
    rintro l' pre x W K ⟨⟨u, ⟨hb1, hb2⟩, hu⟩, hB⟩ hK
    have hlt := rowOk_lt W hb1
    gi_wp2
    have hsz := hB.size
    exact hK _ _ ((KeepsOthers.alloc _ _).from _) ((KpL.refl _ _ W).new ((New.rfl' W).alloc' _) (by omega) (by simp; omega)) ⟨⟨u, ⟨by rw [rowOk_alloc_past W _ _ hlt]; exact hb1, by rw [rowAt_alloc_past W _ _ hlt]; exact hb2⟩, hu.alloc _⟩, hB.alloc (by omega) _⟩ ⟨W.heap.size, by omega, rowOk_alloc_at W _ _ _ rfl, rowAt_alloc_at W _ _ _ rfl, rfl⟩
  case body =>
    rintro l' pre x a' W hl' ⟨r, hr⟩ ⟨⟨u, ⟨hb1, hb2⟩, hu⟩, hB⟩ ⟨Bx, hBx, hx1, hx2, rfl⟩ hlt
    have hlt1 := rowOk_lt W hb1
    have hlt2 := rowOk_lt W hx1
    have hsz := hB.size
    have hpl : pre.length < 1000 := by have h2 := List.length_filter_le (goneP l) v; simp only [List.length_map] at hlt; omega
    have hne : ∀ k, k < b0 + 3 → u.ownBlock ≠ some k := fun k hk e => by have := (World.ownsRow.lt hu _ e).1; omega
    gi_wp2_with (gi_at_builtin; refine Kind.wpListIn_append1 rfl _ _ rfl rfl (hu.alloc _) x W.heap.size rfl (rowOk_alloc_at W _ _ _ rfl) (rowAt_alloc_at W _ _ _ rfl) (by omega) KO_b (by simp only [World.size_alloc]; omega) ?_; intro v' w1 hv1 hg1; obtain ⟨A1, c1, rfl, _⟩ := hv1.form; have hk1 := (hg1.block b0 (by simp only [World.size_alloc]; omega) (fun e => hne b0 (by omega) e.symm)); have hok1 : rowOk w1 b0 = true := (by unfold rowOk; rw [hk1]; exact (rowOk_alloc_past W _ _ hlt1).trans hb1); have hra1 : rowAt w1 b0 = #[u] := (by unfold rowAt; rw [hk1]; exact (rowAt_alloc_past W _ _ hlt1).trans hb2))
    have hg1 : (W.alloc (Obj.cells (opA x) 48)).grownBy w1 u.ownBlock := hg1
    have hv1 : KO.Own w1 (b0 + 3) (.slice A1 (pre.length + 1) c1) (pre ++ [x]) := by have := hv1; rw [List.length_append] at this; exact this
    have hsz1 : W.heap.size + 1 ≤ w1.heap.size := by have := hg1.size; simpa using this
    have hBW1 : Below b0 W w1 := Below.grown ((Below.refl _ W).alloc (by omega) _) hg1 (by simp only [World.size_alloc]; omega) (fun k e => by have := (World.ownsRow.lt hu _ e).1; omega)
    have hBW2 := below_setRow hBW1 b0 #[Value.slice A1 (pre.length + 1) c1] (Nat.le_refl _)
    have hoth : ∀ k, k < b0 + 3 → k ≠ b0 → (w1.setRow b0 #[Value.slice A1 (pre.length + 1) c1]).heap[k]? = W.heap[k]? := fun k hk hkb => by
      rw [setRow_other w1 _ _ _ (by omega), hg1.block k (by simp only [World.size_alloc]; omega) (fun e => hne k hk e.symm), Below.heap_alloc W _ k (by omega)]
    refine ⟨⟨by rw [size_setRow']; omega, fun k o hBk hk hc => ?_⟩, ⟨hBW2, by intro b hb; obtain rfl := List.mem_singleton.1 hb; exact hoth _ (by omega) (by omega)⟩, ⟨_, ⟨by rw [rowOk_setRow]; exact hok1, rowAt_setRow w1 _ _ hok1⟩, World.ownsRow.kept hv1 (grown_setRow w1 b0 _) (.inr fun e => by have := (World.ownsRow.lt hv1 _ e).1; omega)⟩, hB.trans hBW2⟩
    have hklt : k < W.heap.size := (Array.getElem?_eq_some_iff.1 hk).1
    rw [setRow_other w1 _ _ _ (by omega), hg1.block k (by simp only [World.size_alloc]; omega) (fun e => ?_), Below.heap_alloc W _ k hklt]
    · exact hk
    · rcases hu.2 with ⟨rfl, _⟩ | ⟨g, cap, cur, rfl, _, hgc, _⟩
      · cases e
      · injection e with e
        have e : k = g := e
        subst e
        rw [hgc] at hk; injection hk with hk; subst hk; cases hc
  case done =>
    rintro D ys W hD rfl ⟨⟨u, ⟨hd1, hd2⟩, hu⟩, hB⟩ hK
    have hnW : New w W := hb2.trans ((hB3.mono hsz2).trans (hB.mono hsz2))
    have hszW := hB.size
    have hlu : ∀ k, u.ownBlock = some k → k < W.heap.size := fun k e => (World.ownsRow.lt hu _ e).2
    gi_wp2_with (first
      | (refine ⟨trivial, ?_⟩; gi_at_call 68; refine (callsIn_wide.2 (fresh_any A v.length c B d l gv W (hl.new hnW) hll hso)).mono ?_; rintro e w6 ⟨A2, c2, w5, rfl, rfl, hR5, hn5⟩))
    have hn5' : New W w5 := (((New.rfl' W).alloc' _).alloc' _).trans (hn5.mono (by simp only [World.size_alloc]; omega))
    have hsz5 : W.heap.size + 1 + 1 ≤ w5.heap.size := by have := hn5.size; simpa only [World.size_alloc] using this
    obtain ⟨gR, hg1, hg2, hgR⟩ : ∃ gR, W.heap.size ≤ gR ∧ gR < w5.heap.size ∧ (isort l = [] ∨ (A2 = some ⟨gR, 0, none⟩ ∧ rowOk w5 gR = true ∧ ∀ k (hk : k < (isort l).length) j, j < 11 → (rowAt w5 gR)[k * 11 + j]? = (itA (isort l)[k])[j]?)) := by
      rcases Nat.eq_zero_or_pos (isort l).length with h0 | h0
      · exact ⟨W.heap.size, Nat.le_refl _, by omega, .inl (List.eq_nil_of_length_eq_zero h0)⟩
      · obtain ⟨g', eg, -, -, -, hok5, -⟩ := hR5.spotK h0
        subst eg
        have hgb := (World.ownsRow.lt hR5 g' rfl).1
        have hlt5 := rowOk_lt w5 hok5
        refine ⟨g', by omega, hlt5, .inr ⟨rfl, hok5, fun k hk j hj => ?_⟩⟩
        rw [← cell_rowOk w5 hok5]
        exact own_it hR5 w5 (New.rfl' w5) k hk j hj
    generalize hp1 : (v.filter (goneP l)).map delO = p1 at *
    have hDW : D < W.heap.size := (Array.getElem?_eq_some_iff.1 hK).1
    obtain ⟨W6, hW6⟩ : ∃ W6, w5.alloc (Obj.cells #[.slice A2 (isort l).length c2] 22) = W6 := ⟨_, rfl⟩
    have hz6 : W6.heap.size = w5.heap.size + 1 := by rw [← hW6]; simp
    have hn6 : New W W6 := by rw [← hW6]; exact hn5'.alloc' _
    have hn56 : New w5 W6 := by rw [← hW6]; exact (New.rfl' w5).alloc' _
    have hs6 : rowOk W6 w5.heap.size = true ∧ rowAt W6 w5.heap.size = #[.slice A2 (isort l).length c2] := by
      rw [← hW6]; exact ⟨rowOk_alloc_at _ _ _ _ rfl, rowAt_alloc_at _ _ _ _ rfl⟩
    have hv6 : rowOk W6 W.heap.size = true ∧ rowAt W6 W.heap.size = #[.slice A v.length c] := by
      rw [rowOk_below hn56 _ (by omega), rowAt_below hn56 _ (by omega), rowOk_below hn5 _ (by simp only [World.size_alloc]; omega), rowAt_below hn5 _ (by simp only [World.size_alloc]; omega), rowOk_alloc_past _ _ _ (by simp only [World.size_alloc]; omega), rowAt_alloc_past _ _ _ (by simp only [World.size_alloc]; omega)]
      exact ⟨rowOk_alloc_at _ _ _ _ rfl, rowAt_alloc_at _ _ _ _ rfl⟩
    have hg6 : rowOk W6 (W.heap.size + 1) = true ∧ rowAt W6 (W.heap.size + 1) = #[.int .u8 gv] := by
      rw [rowOk_below hn56 _ (by omega), rowAt_below hn56 _ (by omega), rowOk_below hn5 _ (by simp only [World.size_alloc]; omega), rowAt_below hn5 _ (by simp only [World.size_alloc]; omega)]
      exact ⟨rowOk_alloc_at _ _ _ _ (by simp only [World.size_alloc]), rowAt_alloc_at _ _ _ _ (by simp only [World.size_alloc])⟩
    have hb06 : rowOk W6 b0 = true ∧ rowAt W6 b0 = #[u] := ⟨by rw [rowOk_below hn6 _ (by omega)]; exact hd1, by rw [rowAt_below hn6 _ (by omega)]; exact hd2⟩
    have hu6 : KO.Own W6 (b0 + 3) u p1 := hu.new hn6
    have hK6 : W6.heap[D]? = some (.deferred (some [])) := (hn6.block D hDW).trans hK
    have hub : ∀ k, u.ownBlock = some k → k ∉ [W.heap.size, W.heap.size + 1, gR, w5.heap.size, D] := by
      intro k e hm
      have h1 := hlu k e
      simp only [List.mem_cons, List.not_mem_nil, or_false] at hm
      have hk : k = D := by omega
      subst hk
      rcases hu.2 with ⟨rfl, _⟩ | ⟨g, cap, cur, rfl, _, hgc, _⟩
      · cases e
      · injection e with e
        have e : g = k := e
        subst e
        rw [hK] at hgc; cases hgc
    generalize hbs : [W.heap.size, W.heap.size + 1, gR, w5.heap.size, D] = bs at *
    have hbsm : ∀ b ∈ bs, b0 + 3 ≤ b ∧ b < W6.heap.size := by
      rw [← hbs]; intro b hb
      simp only [List.mem_cons, List.not_mem_nil, or_false] at hb
      omega
    have hsub : ∀ b ∈ [W.heap.size, W.heap.size + 1, gR], b ∈ bs := by
      rw [← hbs]; intro b hb
      simp only [List.mem_cons, List.not_mem_nil, or_false] at hb ⊢
      omega
    have hDbs : D ∈ bs := by rw [← hbs]; simp
    have hnw6 : New w W6 := hnW.trans (hn6.mono hnW.size)
    rw [hW6]
    clear hbs
    refine wpIn_rangeFunc_ownH rfl (by omega) (gf := 87) (lb := #[.pointer (some ⟨w5.heap.size, 0, none⟩), .pointer (some ⟨W.heap.size, 0, none⟩), .pointer (some ⟨W.heap.size + 1, 0, none⟩)]) rfl trivial (enters_of Try.func87 (by kernel_rfl) rfl)
      (encs := fun x : Opr => #[Value.agg (opA x)]) (Kp := KpL b0 [W.heap.size, W.heap.size + 1, gR]) (S := fun ys => ys = ((isort l).filter (newP v)).map (putO v gv)) (Sp := fun pre => pre <+: ((isort l).filter (newP v)).map (putO v gv)) (N := (((isort l).filter (newP v)).map (putO v gv)).length) (w0 := W6) ?hseq2 KpL.t (KpL.put (by omega) (by simp; omega)) (Below.refl _ _) (fun _ => rfl)
      (fun pre W' => (∃ u, (rowOk W' b0 = true ∧ rowAt W' b0 = #[u]) ∧ KO.Own W' (b0 + 3) u (p1 ++ pre) ∧ ∀ k, u.ownBlock = some k → k ∉ bs) ∧ KpL b0 bs W6 W')
      (fun _ _ _ => False)
      (OwnFrom.and (Own.from (aO_own2 _ _ _ _) _) (ownFrom_kpL (by omega) (by omega) (fun b hb => ⟨(hbsm b hb).2, (hbsm b hb).2⟩)))
      (fun _ _ _ _ _ hs _ _ => hs)
      ⟨⟨_, hb06, by rw [List.append_nil]; exact hu6, hub⟩, KpL.refl _ _ _⟩
      (fun x a' W' => ∃ Bx, b0 + 3 ≤ Bx ∧ rowOk W' Bx = true ∧ rowAt W' Bx = opA x ∧ a' = { tmps := #[.slice A v.length c, .slice B l.length d, .int .u8 gv, undef, undef, undef, .slice none 0 0, .pointer (some ⟨b0, 0, none⟩), undef, .pointer (some ⟨Bx, 0, none⟩), .slice A v.length c, .bool true, .bool false, .bool false, .slice B l.length d, .bool true, .bool false, .bool false, .slice A v.length c, .slice B l.length d, .func (.func 82) #[] #[.pointer (some ⟨b0 + 1, 0, none⟩), .pointer (some ⟨b0 + 1 + 1, 0, none⟩)], undef, undef, undef, undef, undef, .slice A v.length c, .slice B l.length d, .int .u8 gv, .func (.func 87) #[] #[.pointer (some ⟨w5.heap.size, 0, none⟩), .pointer (some ⟨W.heap.size, 0, none⟩), .pointer (some ⟨W.heap.size + 1, 0, none⟩)], .agg (opA x), undef, undef, undef, undef, undef], defers := [] })
      (fun x a' _ X Y row hs hg hr => by obtain ⟨Bx, h1, h2, h3, h4⟩ := hs; obtain ⟨k1, k2⟩ := row_kept h2 hg (fun r e => (hr r e).2); exact ⟨Bx, h1, k1, k2.trans h3, h4⟩)
      ?assign2 ?body2 ?done2 ?stop2
    case hseq2 =>
      intro l' J Jx X hX hJ _ hY h0
      rcases hgR with hnil | ⟨rfl, hgo, hgc⟩
      · have hs6' := hs6
        rw [hnil] at hs6' ⊢
        exact fresh2_nil 6 (by omega) l' w5.heap.size W.heap.size (W.heap.size + 1) c2 A2 J Jx X (by rw [rowAt_below hX _ (by omega)]; exact hs6'.2) (by rw [rowOk_below hX _ (by omega)]; exact hs6'.1) h0
      · exact fresh2_in 6 (by omega) l' w5.heap.size W.heap.size (W.heap.size + 1) b0 gR c2 A c v (isort l) gv g0 g1 hlv (by rw [isort_len]; exact hll) J Jx X w hJ hY
          (by rw [rowAt_below hX _ (by omega)]; exact hs6.2) (by rw [rowOk_below hX _ (by omega)]; exact hs6.1) (by rw [rowAt_below hX _ (by omega)]; exact hv6.2) (by rw [rowOk_below hX _ (by omega)]; exact hv6.1)
          (by rw [rowAt_below hX _ (by omega)]; exact hg6.2) (by rw [rowOk_below hX _ (by omega)]; exact hg6.1) (by rw [rowOk_below hX _ (by omega), rowOk_below hn56 _ (by omega)]; exact hgo)
          (fun k hk j hj => by rw [rowAt_below hX _ (by omega), rowAt_below hn56 _ (by omega)]; exact hgc k hk j hj) hv hsz2 (hnw6.trans (hX.mono hnw6.size)) (by have := hX.size; omega) h0
    case assign2 =>
      rintro l' pre x X K ⟨⟨u', ⟨hb1', hb2'⟩, hu', hnb⟩, hB'⟩ hK'
      have hlt := rowOk_lt X hb1'
      have hsz := hB'.1.size
      gi_wp2
      exact hK' _ _ ((KeepsOthers.alloc _ _).from _) ((KpL.refl _ _ X).new ((New.rfl' X).alloc' _) (by omega) (by intro b hb; have := (hbsm b (hsub b hb)).2; omega)) ⟨⟨u', ⟨by rw [rowOk_alloc_past X _ _ hlt]; exact hb1', by rw [rowAt_alloc_past X _ _ hlt]; exact hb2'⟩, hu'.alloc _, hnb⟩, hB'.new ((New.rfl' X).alloc' _) (by omega) (fun b hb => by have := (hbsm b hb).2; omega)⟩ ⟨X.heap.size, by omega, rowOk_alloc_at X _ _ _ rfl, rowAt_alloc_at X _ _ _ rfl, rfl⟩
    case body2 =>
      rintro l' pre x a' X hl' ⟨r, hr⟩ ⟨⟨u', ⟨hb1', hb2'⟩, hu', hnb⟩, hB'⟩ ⟨Bx, hBx, hx1, hx2, rfl⟩ hlt
      have hlt1 := rowOk_lt X hb1'
      have hlt2 := rowOk_lt X hx1
      have hsz := hB'.1.size
      have hpl : (p1 ++ pre).length < 2000 := by
        have h2 := List.length_filter_le (goneP l) v
        have h3 := List.length_filter_le (newP v) (isort l)
        rw [isort_len] at h3
        rw [List.length_append, ← hp1]; simp only [List.length_map] at hlt ⊢; omega
      have hne : ∀ k, k < b0 + 3 → u'.ownBlock ≠ some k := fun k hk e => by have := (World.ownsRow.lt hu' _ e).1; omega
      gi_wp2_with (gi_at_builtin; refine Kind.wpListIn_append1A rfl _ _ rfl rfl (hu'.alloc _) x X.heap.size rfl (rowOk_alloc_at X _ _ _ rfl) (rowAt_alloc_at X _ _ _ rfl) (by omega) KO_b (by simp only [World.size_alloc]; omega) ?_; intro v' w1 hv1 hg1' hvb; obtain ⟨A1, c1, rfl, _⟩ := hv1.form; have hk1 := (hg1'.block b0 (by simp only [World.size_alloc]; omega) (fun e => hne b0 (by omega) e.symm)); have hok1 : rowOk w1 b0 = true := (by unfold rowOk; rw [hk1]; exact (rowOk_alloc_past X _ _ hlt1).trans hb1'); have hra1 : rowAt w1 b0 = #[u'] := (by unfold rowAt; rw [hk1]; exact (rowAt_alloc_past X _ _ hlt1).trans hb2'))
      have hg1' : (X.alloc (Obj.cells (opA x) 48)).grownBy w1 u'.ownBlock := hg1'
      have hv1 : KO.Own w1 (b0 + 3) (.slice A1 (p1.length + (pre.length + 1)) c1) (p1 ++ (pre ++ [x])) := by have := hv1; rw [List.append_assoc, List.length_append, List.length_append] at this; exact this
      have hsz1 : X.heap.size + 1 ≤ w1.heap.size := by have := hg1'.size; simpa using this
      have hBW1 : Below b0 X w1 := Below.grown ((Below.refl _ X).alloc (by omega) _) hg1' (by simp only [World.size_alloc]; omega) (fun k e => by have := (World.ownsRow.lt hu' _ e).1; omega)
      have hBW2 := below_setRow hBW1 b0 #[Value.slice A1 (p1.length + (pre.length + 1)) c1] (Nat.le_refl _)
      have hoth : ∀ k ∈ bs, (w1.setRow b0 #[Value.slice A1 (p1.length + (pre.length + 1)) c1]).heap[k]? = X.heap[k]? := fun k hk => by
        have hkm := hbsm k hk
        rw [setRow_other w1 _ _ _ (by omega), hg1'.block k (by simp only [World.size_alloc]; omega) (fun e => hnb k e.symm hk), Below.heap_alloc X _ k (by omega)]
      have hKL : KpL b0 bs X (w1.setRow b0 #[Value.slice A1 (p1.length + (pre.length + 1)) c1]) := ⟨hBW2, hoth⟩
      have hnb1 : ∀ k, (Value.slice A1 (p1.length + (pre.length + 1)) c1).ownBlock = some k → k ∉ bs := by
        intro k e hm
        have e : (Value.slice A1 (p1 ++ pre ++ [x]).length c1).ownBlock = some k := by rw [List.append_assoc, List.length_append, List.length_append]; exact e
        rcases hvb with h | h
        · exact hnb k (h.symm.trans e) hm
        · have e2 := h.symm.trans e
          injection e2 with e2
          have := (hbsm k hm).2
          simp only [World.size_alloc] at e2
          omega
      refine ⟨⟨by rw [size_setRow']; omega, fun k o hBk hk hc => ?_⟩, hKL.sub hsub, ⟨_, ⟨by rw [rowOk_setRow]; exact hok1, rowAt_setRow w1 _ _ hok1⟩, World.ownsRow.kept hv1 (grown_setRow w1 b0 _) (.inr fun e => by have := (World.ownsRow.lt hv1 _ e).1; omega), hnb1⟩, hB'.t hKL⟩
      have hklt : k < X.heap.size := (Array.getElem?_eq_some_iff.1 hk).1
      rw [setRow_other w1 _ _ _ (by omega), hg1'.block k (by simp only [World.size_alloc]; omega) (fun e => ?_), Below.heap_alloc X _ k hklt]
      · exact hk
      · rcases hu'.2 with ⟨rfl, _⟩ | ⟨g, cap, cur, rfl, _, hgc, _⟩
        · cases e
        · injection e with e
          have e : k = g := e
          subst e
          rw [hgc] at hk; injection hk with hk; subst hk; cases hc
    case done2 =>
      rintro D2 ys X hD2 rfl ⟨⟨u', ⟨hb1', hb2'⟩, hu', hnb⟩, hB'⟩ hK2
      have hlt1 := rowOk_lt X hb1'
      gi_wp2
      have hKX : X.heap[D]? = some (.deferred (some [])) := (hB'.2 D hDbs).trans hK6
      have hKX2 : (X.putObj D2 (.deferred none)).heap[D]? = some (.deferred (some [])) := (World.putObj_heap_other (by omega)).trans hKX
      refine ⟨by simp, .inl ⟨_, _, rfl, run_takeDeferred hK2, ?_⟩⟩
      refine ⟨by simp, .inl ⟨_, _, rfl, run_takeDeferred hKX2, ?_⟩⟩
      refine ⟨_, results_tmp rfl _ _ _, u', rfl, ?_, ?_⟩
      · have h4 : KO.Own (X.putObj D2 (.deferred none)) (b0 + 3) u' (p1 ++ ((isort l).filter (newP v)).map (putO v gv)) := hu'.keptNC (grownBy_putObj' X D2 _) (fun r e => by cases e; exact ⟨_, hK2, rfl⟩)
        have h5 : KO.Own ((X.putObj D2 (.deferred none)).putObj D (.deferred none)) (b0 + 3) u' (p1 ++ ((isort l).filter (newP v)).map (putO v gv)) := h4.keptNC (grownBy_putObj' _ D _) (fun r e => by cases e; exact ⟨_, hKX2, rfl⟩)
        rw [hp1]
        exact h5.lower (by omega)
      · have h1 : New w X := hnw6.trans (hB'.1.mono hsz2)
        have h2 : Below w.heap.size X (X.putObj D2 (.deferred none)) := belowK_b (w := w) (Nat.le_refl _) X D2 _ _ (by omega) hK2 rfl rfl
        have h3 : Below w.heap.size (X.putObj D2 (.deferred none)) ((X.putObj D2 (.deferred none)).putObj D (.deferred none)) := belowK_b (w := w) (Nat.le_refl _) _ D _ _ (by omega) hKX2 rfl rfl
        exact (Below.trans h1 h2).trans h3
    case stop2 =>
      rintro D2 c' pre X _ _ h _
      exact h.elim
  case stop =>
    rintro D c pre W _ _ h _
    exact h.elim
end Go.Proofs.Ytkgebhmlogddcaa
