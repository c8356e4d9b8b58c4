/- An iterator of the layer view: what the view has and no item is. -/
import Derived.Test.YtkgebhmlogddcaaIter1
import Derived.Test.YtkgebhmlogddcaaPend2
import Derived.Test.YtkgebhmlogddcaaItem2
namespace Go.Proofs.Ytkgebhmlogddcaa
open Go.RowKit Go.Shelf
set_option linter.unusedSimpArgs false
attribute [local go_sem] Oper.semAt_some
attribute [local go_sem] rowAt_alloc_at rowAt_alloc_past rowOk_alloc_at rowOk_alloc_past rowAt_drew rowOk_drew setRow_alloc_at setRow_alloc_past rowAt_setRow rowAt_setRow_far rowOk_setRow cell_rowOk frozen_rowOk setCell_rowOk setRow_setRow con_fold con_get con_size con_set set_all none8_cells equalIn_con storeCells_con
attribute [local go_sem] it_size it_0 it_1 it_2 it_3 it_4 it_5 it_6 it_7 it_8 it_9 it_10 it_set0 it_set1 it_set2 it_fold it_zero it_eta it_fill run_storeCells_it
attribute [local go_sem] sn_size sn_0 sn_1 sn_set0 sn_set1 sn_fold sn_eta sn_fill run_storeCells_sn eqg_sn eqg_it
attribute [local go_sem high] equalIn_sn equalIn_it
attribute [local go_sem] op_size op_0 op_1 op_2 op_3 op_4 op_5 op_6 op_7 op_8 op_9 op_10 op_11 op_con op_fold op_fold0 op_fillz op_set0 op_set1 op_set2 op_set3 op_ne op_fillC op_eta run_storeCells_op it_extr

/-- what a round keeps: all that was there ahead, and some blocks more -/
def KpL (n₀ : Nat) (bs : List Nat) (W W' : World) : Prop := Below n₀ W W' ∧ ∀ b ∈ bs, W'.heap[b]? = W.heap[b]?
theorem KpL.t {n₀ : Nat} {bs : List Nat} {A B C : World} (h : KpL n₀ bs A B) (k : KpL n₀ bs B C) : KpL n₀ bs A C := ⟨h.1.trans k.1, fun b hb => (k.2 b hb).trans (h.2 b hb)⟩
theorem KpL.refl (n₀ : Nat) (bs : List Nat) (W : World) : KpL n₀ bs W W := ⟨Below.refl _ _, fun _ _ => rfl⟩
theorem KpL.row {n₀ : Nat} {bs : List Nat} {A B : World} (h : KpL n₀ bs A B) {g : Nat} (hg : g ∈ bs) (hok : rowOk A g = true) : rowOk B g = true ∧ rowAt B g = rowAt A g := by
  constructor
  · unfold rowOk; rw [h.2 g hg]; exact hok
  · unfold rowAt; rw [h.2 g hg]
theorem KpL.new {n₀ : Nat} {bs : List Nat} {A B C : World} (h : KpL n₀ bs A B) (k : New B C) (hn : n₀ ≤ B.heap.size) (hbs : ∀ b ∈ bs, b < B.heap.size) : KpL n₀ bs A C := h.t ⟨k.mono hn, fun b hb => k.block b (hbs b hb)⟩
theorem mf_len {α β : Type} (f : α → β) (p : α → Bool) (l : List α) (k : Nat) (hk : k < l.length) (h : p l[k] = true) : (((l.take k).filter p).map f).length < ((l.filter p).map f).length := by
  have e : l = l.take k ++ l[k] :: l.drop (k + 1) := by simp
  conv => rhs; rw [e]
  rw [List.length_map, List.length_map, List.filter_append, List.length_append, List.filter_cons, if_pos h, List.length_cons]; omega
theorem mf_pre {α β : Type} (f : α → β) (p : α → Bool) (l : List α) (k : Nat) : ((l.take k).filter p).map f <+: (l.filter p).map f := by
  refine ⟨((l.drop k).filter p).map f, ?_⟩
  rw [← List.map_append, ← List.filter_append, List.take_append_drop]
theorem abides_new {J : List Opr → World → Prop} {B : Nat} (hJ : AbidesFrom B J) {pre : List Opr} {W W' : World} (h : J pre W) (hb : New W W') : J pre W' :=
  hJ _ _ _ none h ⟨hb.os, hb.tape, hb.output, hb.size, fun k hk _ => hb.block k hk⟩ (fun r e => by cases e)

set_option maxRecDepth 100000 in
set_option maxHeartbeats 2000000 in
theorem gone1_in (n : Nat) (hn : 1 ≤ n) (ll Bv Bl n₀ : Nat) (A : Option Addr) (c : Nat) (v : List Sn) (B : Option Addr) (d : Nat) (l : List It) (hlv : v.length ≤ 1000) (hll : l.length ≤ 1000) (J Jx : List Opr → World → Prop) (W w0 : World) (hJ : AbidesFrom W.heap.size J)
    (hY : ∀ pre x W1, J pre W1 → pre.length < ((v.filter (goneP l)).map delO).length → YieldAt Fence.wide (n - 1) Try.prog ll #[.agg (opA x)] W1 fun e W' =>
      (e = .returned (.bool true) ∧ J (pre ++ [x]) W' ∧ KpL n₀ [Bl] W1 W') ∨ (e = .returned (.bool false) ∧ Jx (pre ++ [x]) W'))
    (hBv : rowAt W Bv = #[.slice A v.length c]) (hokv : rowOk W Bv = true) (hBl : rowAt W Bl = #[.slice B l.length d]) (hokl : rowOk W Bl = true) (hv : KS.Rd w0 A v.length v) (hl : KI.Rd w0 B l.length l) (hn0 : w0.heap.size ≤ n₀) (h0W : New w0 W) (hnW : n₀ ≤ W.heap.size) (h0 : J [] W) :
    CallsIn Fence.wide n Try.prog 82 #[.func (.yield ll) #[] #[], .pointer (some ⟨Bv, 0, none⟩), .pointer (some ⟨Bl, 0, none⟩)] W fun e W' => (∃ v, e = .returned v) ∧
      ((∃ ys, ys = (v.filter (goneP l)).map delO ∧ J ys W') ∨ (∃ pre, pre <+: (v.filter (goneP l)).map delO ∧ Jx pre W')) := by
  have hBlt := rowOk_lt W hokv
  have hLlt := rowOk_lt W hokl
  refine callsIn_of_wp Try.func82 rfl trivial ?_ rfl
  simp only [Try.ntmps82, List.size_toArray, List.length_cons, List.length_nil, Nat.reduceAdd, Nat.reduceSub, Array.replicate_succ, Array.replicate_zero, List.push_toArray, List.append_toArray, List.nil_append, List.cons_append]
  gi_wp2
  gi_loopw [10] (fun i wr => ∃ k : Nat, k ≤ v.length ∧ i = .int .i64 k ∧ J (((v.take k).filter (goneP l)).map delO) wr ∧ KpL n₀ [Bl] W wr ∧ W.heap.size ≤ wr.heap.size) (fun i _ => v.length - (intOf i).toNat)
  case atStart => exact ⟨0, Nat.zero_le _, rfl, h0, KpL.refl _ _ _, Nat.le_refl _⟩
  case round =>
    obtain ⟨k, hk, rfl, hJs, hnx, hsz⟩ := hrel
    have hnw : New w0 wr := h0W.trans (hnx.1.mono hn0)
    obtain ⟨hk1, hk2⟩ := hnx.row (by simp) hokl
    rw [hBl] at hk2
    have hLl2 : Bl < wr.heap.size := rowOk_lt wr hk1
    by_cases hlt : k < v.length
    · have hst := map_filter_step delO (goneP l) v k hlt
      have hgp : goneP l v[k] = !(findI l v[k].1).isSome := rfl
      have hlen1 := mf_len delO (goneP l) v k hlt
      have hpre1 := mf_pre delO (goneP l) v (k + 1)
      have hC1 := iFind_any B l.length d l v[k].1
      rw [hgp] at hst hlen1
      generalize (findI l v[k].1).isSome = it at *
      generalize (findI l v[k].1).getD itZ = xx at *
      obtain ⟨bhv, ohv, rfl, hbhv, hchv⟩ := hv.2 (by omega)
      have hrhv : ∀ w', New w0 w' → ∀ k (hk : k < v.length), w'.cell? ⟨bhv, ohv + k * 2, none⟩ = (snA v[k])[0]? := fun w' hw k hk => (hw.cell (p := ⟨bhv, _, none⟩) hbhv).trans (hchv k hk 0 (by decide))
      have hshv : ∀ w', New w0 w' → ∀ k (hk : k < v.length) j, j < 2 → w'.cell? ⟨bhv, ohv + k * 2 + j, none⟩ = (snA v[k])[j]? := fun w' hw k hk j hj => (hw.cell (p := ⟨bhv, _, none⟩) hbhv).trans (hchv k hk j hj)
      clear hchv
      have hl2 := hl.new (hnw.alloc' (Obj.cells (snA v[k]) 68))
      have hHC := Lib.hid hC1
      have hst2 := Lib.hid hst
      have hlen2 := Lib.hid hlen1
      have hpre2 := Lib.hid hpre1
      clear hgp hst hlen1 hpre1 hC1
      cases it
      · gi_wp2_with (refine ⟨trivial, ?_⟩; gi_at_call 22; refine (callsIn_wide.2 (hHC.out _ hl2 (by omega))).mono ?_; rintro e w1 ⟨rfl, hb⟩; have hA1 := rowAt_below hb wr.heap.size (by simp); have hO1 := rowOk_below hb wr.heap.size (by simp); simp only [rowAt_alloc_at _ _ _ _ rfl, rowOk_alloc_at _ _ _ _ rfl] at hA1 hO1; have hz1 : wr.heap.size < w1.heap.size := (by have := hb.size; simp only [World.size_alloc] at this; omega); have hr1 : New wr (w1.alloc (Obj.cells (itA xx) 28)) := (((New.rfl' wr).alloc' (Obj.cells (snA v[k]) 68)).call hb).alloc' (Obj.cells (itA xx) 28); obtain ⟨fn, tmps, assign, body, hy, hR⟩ := hY _ (delO v[k]) _ (abides_new hJ hJs hr1) (hlen2.out rfl); simp only [delO] at hy)
        refine hR.mono ?_
        rintro e W3 (⟨rfl, hJ3, hk3⟩ | ⟨rfl, hJx3⟩)
        · gi_wp2
          go_roundw
          case rel => exact ⟨k + 1, by omega, by simp, by rw [hst2.out]; exact hJ3, (hnx.new hr1 (Nat.le_trans hnW hsz) (by simpa using hLl2)).t hk3, Nat.le_trans hsz (Nat.le_trans hr1.size hk3.1.size)⟩
          case measure => simp [intOf]; omega
        · gi_wp2
          refine bodyPost_ret (results_none rfl _ _ _) rfl ?_
          exact ⟨⟨_, rfl⟩, .inr ⟨_, by have := hpre2.out; rw [hst2.out] at this; exact this, hJx3⟩⟩
      · gi_wp2_with (refine ⟨trivial, ?_⟩; gi_at_call 22; refine (callsIn_wide.2 (hHC.out _ hl2 (by omega))).mono ?_; rintro e w1 ⟨rfl, hb⟩; have hA1 := rowAt_below hb wr.heap.size (by simp); have hO1 := rowOk_below hb wr.heap.size (by simp); simp only [rowAt_alloc_at _ _ _ _ rfl, rowOk_alloc_at _ _ _ _ rfl] at hA1 hO1; have hz1 : wr.heap.size < w1.heap.size := (by have := hb.size; simp only [World.size_alloc] at this; omega); have hr1 : New wr (w1.alloc (Obj.cells (itA xx) 28)) := (((New.rfl' wr).alloc' (Obj.cells (snA v[k]) 68)).call hb).alloc' (Obj.cells (itA xx) 28))
        refine ⟨fun _ h => (by cases h), ?_⟩
        gi_wp2
        go_roundw
        case rel => exact ⟨k + 1, by omega, by simp, by rw [hst2.out]; simpa using abides_new hJ hJs hr1, hnx.new hr1 (Nat.le_trans hnW hsz) (by simpa using hLl2), Nat.le_trans hsz hr1.size⟩
        case measure => simp [intOf]; omega
    · gi_wp2
      go_end0
      rw [List.take_of_length_le (by omega)] at hJs
      exact ⟨⟨_, rfl⟩, .inl ⟨_, rfl, hJs⟩⟩
end Go.Proofs.Ytkgebhmlogddcaa
