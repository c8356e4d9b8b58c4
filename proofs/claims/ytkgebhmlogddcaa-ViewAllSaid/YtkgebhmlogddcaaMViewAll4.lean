/- Part 4 of 7 of the proof of ViewAll: Copy2, Insert, Set, PlainS, Pend1, Sort1, Sort2, Iter1, GhostM, Pend2. Conditions: none beyond the given statement's own. -/
import Derived.Test.YtkgebhmlogddcaaMViewAll3
import Derived.Lib.AppendZerosOnto
import Derived.Lib.Overlaps
import Derived.Deep.RegionLaw
import Derived.RangeFuncNested
import Derived.RangeFuncBound
import Derived.RangeFuncCalls
import Derived.RangeFuncLeaves
import Derived.RangeFuncBox
import Derived.Shelf.Abstract
import Derived.Shelf.RegionOpen
import Derived.WalkKit
import Derived.OwnWalkIn
import Derived.TacticsInMore
import Derived.LoopNIn
import Derived.LoopIn
/- Making room in a row: append of zero elements, a copy one place further. No condition: helpers alone. -/
namespace Go.Proofs.Ytkgebhmlogddcaa
open Go.RowKit
namespace Kind
variable {α : Type} {K : Kind α}
theorem flat_zero (zx : α) (hz : K.z.cells = K.enc zx) (k : Nat) : (Builtin.zeroCells K.z.cells k).toList = K.flat (List.replicate k zx) := by
  have hsz := K.hsz zx
  have hp := K.pos
  apply List.ext_getElem?
  intro i
  by_cases h : i < k * K.sz
  · have hdm : i / K.sz < k := (Nat.div_lt_iff_lt_mul hp).2 h
    have hmod : i % K.sz < K.sz := Nat.mod_lt _ hp
    have he : i / K.sz * K.sz + i % K.sz = i := by rw [Nat.mul_comm]; exact Nat.div_add_mod i K.sz
    have h2 := K.flat_get (List.replicate k zx) (i / K.sz) (i % K.sz) (by simpa using hdm) hmod
    rw [he, List.getElem_replicate] at h2
    rw [h2, hz]
    simp only [Builtin.zeroCells, Array.toList_map, List.getElem?_map, hsz, Array.toList_range, List.getElem?_range h, Option.map_some]
    rw [Array.getElem?_eq_getElem (by omega), getElem!_pos _ _ (by omega)]
  · rw [List.getElem?_eq_none (by rw [Array.length_toList, size_zeroCells, K.hzs]; omega), List.getElem?_eq_none (by rw [K.flat_length, List.length_replicate]; omega)]
theorem run_append_zerosK {w : World} {base g n c i k : Nat} {l : List α} (zx : α) (hzx : K.z.cells = K.enc zx) (tn ty : TypeId) (kq kn : IntKind) (htn : Try.prog.underlying tn = some (.int kn))
    (hown : K.Own w base (.slice (some ⟨g, 0, none⟩) n c) l) (hi : i ≤ l.length) (h0 : 0 < k) (hc : c < i + k) (h63 : i + k ≤ 1048576) (hbytes : K.bytes ≤ 4096) :
    ∃ c' w', (Builtin.append_ #[K.t, tn] ty #[.slice (some ⟨g, 0, none⟩) i c, .int kq k]).run Try.prog w = .ok (.slice (some ⟨w.heap.size, 0, none⟩) (i + k) c') w' ∧ K.Own w' w.heap.size (.slice (some ⟨w.heap.size, 0, none⟩) (i + k) c') (l.take i ++ List.replicate k zx) ∧ New w w' ∧ i + k ≤ c' ∧ c' ≤ maxLen := by
  rcases hown.2 with ⟨hv, _⟩ | ⟨g', cap, cur, hv, hb, hg, hnc, hcm, hcs, htake⟩
  · cases hv
  · injection hv with h1 h2 h3
    injection h1 with h1
    injection h1 with h1
    subst h1; subst h2; subst h3
    have hlen : (l.take i).length = i := by rw [List.length_take]; omega
    have hfl : (K.flat (l.take i)).length = i * K.sz := by rw [K.flat_length, hlen]
    have hle : i * K.sz ≤ l.length * K.sz := Nat.mul_le_mul_right _ hi
    have hold : (Builtin.firstCells K.i.size i (.slice (some ⟨g, 0, none⟩) i c)).run Try.prog w.drew = .ok (K.flat (l.take i)).toArray w.drew := by
      rw [K.hs]
      refine run_firstCells_some w.drew K.sz i ⟨g, 0, none⟩ i c (K.flat (l.take i)) hfl (fun j v hj => ?_)
      have hadd : (⟨g, 0, none⟩ : Addr).add j = ⟨g, j, none⟩ := by unfold Addr.add; split <;> simp_all
      have hji : j < i * K.sz := by rw [← hfl]; exact (List.getElem?_eq_some_iff.1 hj).1
      rw [hadd, show w.drew.cell? ⟨g, j, none⟩ = w.cell? ⟨g, j, none⟩ from rfl, cell_of_row w g j cur K.e (0, 0) hg, ← hj]
      have e1 : cur.toList.take (i * K.sz) = K.flat (l.take i) := by
        have e2 : K.flat l = K.flat (l.take i) ++ K.flat (l.drop i) := by rw [← K.flat_append, List.take_append_drop]
        have e3 : cur.toList.take (i * K.sz) = (K.flat l).take (i * K.sz) := by rw [← htake, List.take_take, Nat.min_eq_left hle]
        rw [e3, e2, List.take_append_of_le_length (by omega), List.take_of_length_le (by omega)]
      rw [← e1, List.getElem?_take, if_pos hji]; simp
    have hb1 : (i + k) * K.i.bytes ≤ 1048576 * 4096 := Nat.mul_le_mul h63 (by rw [K.hb]; exact hbytes)
    have hb2 : k * K.i.bytes ≤ (i + k) * K.i.bytes := Nat.mul_le_mul_right _ (by omega)
    have hrun := Lib.run_append_grow_zeros w K.t tn ty K.e K.i K.z kq kn K.ht htn K.hi K.hz (some ⟨g, 0, none⟩) i c (K.flat (l.take i)) hold k h0 (by rw [K.hs]; exact K.pos) hc (by omega) (by omega) (growslice_fits (by omega) (by omega))
    have hge := grownCap_ge w (i + k) c K.e
    have hcm2 : grownCap w (i + k) c K.e ≤ maxLen := grownCap_le_maxLen w (i + k) c K.e (by simp only [maxLen]; omega)
    refine ⟨_, _, hrun, ⟨?_, .inr ⟨w.heap.size, _, _, ?_, Nat.le_refl _, heap_alloc_new w.drew _, ?_, hcm2, ?_, ?_⟩⟩, (New.rfl' w).drew'.alloc' _, hge, hcm2⟩
    · rw [K.flat_length]
    · simp only [List.length_append, hlen, List.length_replicate]
    · simp only [List.length_append, hlen, List.length_replicate]; exact hge
    · have e9 : i * K.sz + k * K.sz + (grownCap w (i + k) c K.e - (i + k)) * K.sz = grownCap w (i + k) c K.e * K.sz := by
        rw [← Nat.add_mul, ← Nat.add_mul, Nat.add_sub_cancel' hge]
      simp only [Array.size_append, List.size_toArray, size_zeroCells, K.hzs, hfl]
      exact e9
    · simp only [Array.toList_append, flat_zero zx hzx]
      rw [← K.flat_append, List.take_append_of_le_length (by rw [K.flat_length]; exact Nat.le_refl _), List.take_of_length_le (by rw [K.flat_length]; exact Nat.le_refl _)]
/-- a copy of what stands from i on, one place further, where there is room -/
theorem run_shiftK {w : World} {base g n c i dc sc : Nat} {l : List α} (ty : TypeId) (hown : K.Own w base (.slice (some ⟨g, 0, none⟩) n c) l) (hi : i < l.length) (hroom : l.length + 1 ≤ c) :
    ∃ w', (Builtin.copy_ #[K.t, K.t] ty #[.slice (some ⟨g, (i + 1) * K.sz, none⟩) (l.length - i) dc, .slice (some ⟨g, i * K.sz, none⟩) (l.length + 1 - i) sc]).run Try.prog w = .ok (goInt (l.length - i : Nat)) w' ∧
      K.Own w' base (.slice (some ⟨g, 0, none⟩) (l.length + 1) c) (l.take (i + 1) ++ l.drop i) ∧ w.grownBy w' (some g) := by
  rcases hown.2 with ⟨hv, _⟩ | ⟨g', cap, cur, hv, hb, hg, hnc, hcm, hcs, htake⟩
  · cases hv
  · injection hv with h1 h2 h3
    injection h1 with h1
    injection h1 with h1
    subst h1; subst h2; subst h3
    have hlc : (l.length + 1) * K.sz ≤ c * K.sz := Nat.mul_le_mul_right _ hroom
    have hdl : (l.drop i).length = l.length - i := by simp
    have hfl : (K.flat (l.drop i)).length = (l.length - i) * K.sz := by rw [K.flat_length, hdl]
    have hsum : i * K.sz + (l.length - i) * K.sz = l.length * K.sz := by rw [← Nat.add_mul]; congr 1; omega
    have h1s : (i + 1) * K.sz = i * K.sz + K.sz := by rw [Nat.add_mul]; omega
    have h1l : (l.length + 1) * K.sz = l.length * K.sz + K.sz := by rw [Nat.add_mul]; omega
    have e2 : K.flat l = K.flat (l.take i) ++ K.flat (l.drop i) := by rw [← K.flat_append, List.take_append_drop]
    have hti : (K.flat (l.take i)).length = i * K.sz := by rw [K.flat_length, List.length_take, Nat.min_eq_left (by omega)]
    have hsrc : ∀ j u, (K.flat (l.drop i))[j]? = some u → w.cell? ((⟨g, i * K.sz, none⟩ : Addr).add j) = some u := by
      intro j u hu
      have hj : j < (l.length - i) * K.sz := by rw [← hfl]; exact (List.getElem?_eq_some_iff.1 hu).1
      have hadd : (⟨g, i * K.sz, none⟩ : Addr).add j = ⟨g, i * K.sz + j, none⟩ := by unfold Addr.add; split <;> simp_all
      rw [hadd, cell_of_row w g _ cur K.e (0, 0) hg, ← hu]
      have e3 : (K.flat l)[i * K.sz + j]? = (K.flat (l.drop i))[j]? := by
        rw [e2, List.getElem?_append_right (by omega), hti]; congr 1; omega
      rw [← e3, ← htake, List.getElem?_take, if_pos (by omega)]; simp
    have hfc := run_firstCells_some (P := Try.prog) w K.sz (l.length - i) ⟨g, i * K.sz, none⟩ (l.length + 1 - i) sc (K.flat (l.drop i)) hfl hsrc
    have hst := run_storeCells_at (P := Try.prog) g ((i + 1) * K.sz) K.e (K.flat (l.drop i)) 0 cur w hg (by rw [hfl, hcs]; omega) (K.flat_one' _)
    rw [Nat.add_zero] at hst
    obtain ⟨cs2, hcs2, hst⟩ : ∃ cs2 : Array Value, cs2.toList = cur.toList.take ((i + 1) * K.sz) ++ K.flat (l.drop i) ++ cur.toList.drop ((i + 1) * K.sz + (K.flat (l.drop i)).length) ∧
        (storeCells ⟨g, (i + 1) * K.sz, none⟩ (K.flat (l.drop i))).run Try.prog w = .ok () (w.setRow g cs2) := ⟨_, List.toList_toArray, hst⟩
    have hcl : cur.toList.length = c * K.sz := by rw [Array.length_toList, hcs]
    have hll : (l.take (i + 1) ++ l.drop i).length = l.length + 1 := by simp only [List.length_append, List.length_take, List.length_drop]; omega
    have hmin : Nat.min (l.length + 1 - i) (l.length - i) = l.length - i := Nat.min_eq_right (by omega)
    refine ⟨w.setRow g cs2, ?_, ⟨?_, .inr ⟨g, c, cs2, ?_, hb, setRow_heap w g cur _ _ _ hg, ?_, hcm, ?_, ?_⟩⟩, grown_setRow w g _⟩
    · have hfc2 : (Builtin.firstCells K.i.size (l.length - i) (.slice (some ⟨g, i * K.sz, none⟩) (l.length + 1 - i) sc)).run Try.prog w = .ok (K.flat (l.drop i)).toArray w := by rw [K.hs]; exact hfc
      simp [Builtin.copy_, run_underlying K.ht, sizeOf, typeInfo, K.hi, Builtin.lenOf, hmin, hfc2, hst]
    · rw [K.flat_length]
    · rw [hll]
    · rw [hll]; exact hroom
    · rw [← Array.length_toList, hcs2]
      simp only [List.length_append, List.length_take, List.length_drop, hfl, hcl]
      omega
    · have hq : cur.toList.take ((i + 1) * K.sz) = K.flat (l.take (i + 1)) := by
        have e3 : cur.toList.take ((i + 1) * K.sz) = (K.flat l).take ((i + 1) * K.sz) := by rw [← htake, List.take_take, Nat.min_eq_left (Nat.mul_le_mul_right _ hi)]
        have e4 : K.flat l = K.flat (l.take (i + 1)) ++ K.flat (l.drop (i + 1)) := by rw [← K.flat_append, List.take_append_drop]
        have e5 : (K.flat (l.take (i + 1))).length = (i + 1) * K.sz := by rw [K.flat_length, List.length_take, Nat.min_eq_left (by omega)]
        rw [e3, e4, List.take_append_of_le_length (by omega), List.take_of_length_le (by omega)]
      rw [hll, hcs2, hq, ← K.flat_append, List.take_append_of_le_length (by rw [K.flat_length, hll]; exact Nat.le_refl _), List.take_of_length_le (by rw [K.flat_length, hll]; exact Nat.le_refl _)]
end Kind
end Go.Proofs.Ytkgebhmlogddcaa
/- Contracts: slices.Insert of one at what was told. -/
namespace Go.Proofs.Ytkgebhmlogddcaa
open Go.RowKit
set_option linter.unusedSimpArgs false
attribute [local go_sem] rowAt_alloc_at rowAt_alloc_past rowOk_alloc_at rowOk_alloc_past rowAt_drew rowOk_drew setRow_alloc_at setRow_alloc_past rowAt_setRow rowAt_setRow_far rowOk_setRow cell_rowOk frozen_rowOk setCell_rowOk setRow_setRow con_fold con_get con_size con_set set_all none8_cells equalIn_con storeCells_con
attribute [local go_sem] it_size it_0 it_1 it_2 it_3 it_4 it_5 it_6 it_7 it_8 it_9 it_10 it_set0 it_set1 it_set2 it_fold it_zero it_eta it_fill run_storeCells_it
attribute [local go_sem] sn_size sn_0 sn_1 sn_set0 sn_set1 sn_fold sn_eta sn_fill run_storeCells_sn eqg_sn eqg_it
attribute [local go_sem high] equalIn_sn equalIn_it

theorem KSz : KS.z.cells = KS.enc (0, 0) := by
  have h1 : Try.prog.info? KS.e = some KS.i := KS.hi
  have h2 : KS.i.zero = some KS.z := KS.hz
  have h3 : (Try.prog.info? 68).bind (·.zero) = some (.agg (snA (0, 0))) := by kernel_rfl
  rw [← KS_e, h1] at h3
  have h4 : KS.i.zero = some (.agg (snA (0, 0))) := h3
  rw [Option.some.inj (h2.symm.trans h4)]; rfl
set_option maxRecDepth 100000 in
theorem wpList_zerosS {ops : Array Oper} {rest : List Oper} {o : Oper} {ac : Act} {w : World} {Q : Exit → Act → World → Prop} {base g n c i k t : Nat} {kq : IntKind} {l : List Sn} (hgd : o.guard = none) (s x : Operand)
    (ho : o.op = .call { callee := .builtin .append, args := #[s, x], argTypes := #[46, 3] }) (hs : ac.eval s = .slice (some ⟨g, 0, none⟩) i c) (hx : ac.eval x = .int kq (k : Nat))
    (hown : KS.Own w base (.slice (some ⟨g, 0, none⟩) n c) l) (hi : i ≤ l.length) (h0 : 0 < k) (hc : c < i + k) (h63 : i + k ≤ 1048576) (ht : i + k = t)
    (h : ∀ c' w', KS.Own w' w.heap.size (.slice (some ⟨w.heap.size, 0, none⟩) t c') (l.take i ++ List.replicate k (0, 0)) → New w w' → t ≤ c' → c' ≤ maxLen → wpList Try.prog ops Q rest (ac.put o.dst (.slice (some ⟨w.heap.size, 0, none⟩) t c')) w') : wpList Try.prog ops Q (o :: rest) ac w := by
  subst ht
  obtain ⟨c', w', hrun, h2, h3, h4, h5⟩ := Kind.run_append_zerosK (K := KS) (w := w) (0, 0) KSz 3 o.type kq .i64 Try.underlying3 hown hi h0 hc h63 KS_b
  exact Lib.wpList_append_run w hgd s x _ _ ho _ _ hs hx _ _ hrun (h c' w' h2 h3 h4 h5)
theorem sizeSn (w : World) : (sizeOf 68).run Try.prog w = .ok 2 w := by
  have h1 : Try.prog.info? 68 = some KS.i := KS.hi
  have h2 : KS.i.size = 2 := KS.hs
  simp [sizeOf, typeInfo, h1, h2]
theorem run_overlapsS (w : World) (vb g off lb cb : Nat) (hne : vb ≠ g) (hok : rowOk w vb = true) (hok2 : rowOk w g = true) (hgs : 0 < (rowAt w g).size) :
    (callFunc 79 #[.slice (some ⟨vb, 0, none⟩) 1 1, .slice (some ⟨g, off, none⟩) lb cb]).run Try.prog w = .ok (.value (.bool false)) w := by
  obtain ⟨t, ht⟩ := rowOk_get w hok
  obtain ⟨t2, ht2⟩ := rowOk_get w hok2
  rw [run_callFunc_extern Try.func79 (by kernel_rfl) (by kernel_rfl) (by kernel_rfl) (e := Extern.SlicesOverlaps.overlaps #[46, 46] #[4]) (by kernel_rfl),
    Lib.run_overlaps_apart w 46 4 68 Try.underlying46 2 (fun w => sizeSn w) ⟨vb, 0, none⟩ ⟨g, off, none⟩ 1 1 lb cb hne t t2 (rowAt w vb).size (rowAt w g).size (by simp [World.shape?, ht]) (by simp [World.shape?, ht2]) (by omega) (frozen_rowOk w hok 0) (frozen_rowOk w hok _)]
  rfl

theorem ins_end (l : List Sn) (x : Sn) : l.take l.length ++ [x] ++ l.drop l.length = l ++ [x] := by simp
set_option maxHeartbeats 1600000 in
set_option maxRecDepth 100000 in
theorem insS_end (v : Value) (l : List Sn) (x : Sn) (vb : Nat) (w : World) (base : Nat) (hv : KS.Own w base v l) (hn : l.length ≤ 1000) (hbase : base ≤ w.heap.size) (hok : rowOk w vb = true) (hvb : rowAt w vb = snA x) :
    Calls Try.prog 64 #[v, .int .i64 (l.length : Nat), .slice (some ⟨vb, 0, none⟩) 1 1] w fun e w' => ∃ v', e = .returned v' ∧ KS.Own w' base v' (l ++ [x]) ∧ w.grownBy w' v.ownBlock := by
  obtain ⟨A, c, rfl, hc⟩ := hv.form
  by_cases hcl : c = l.length
  all_goals
    go_enter Try.func64, Try.ntmps64
    go_wp2_with (first
      | (at_builtin; refine Kind.wpList_append1 rfl _ _ rfl rfl hv x vb rfl hok hvb (by omega) KS_b hbase ?_; intro v' w2 hv2 _ hg))
    go_ret
    exact ⟨_, rfl, hv2, hg⟩
theorem wpList_copyS {ops : Array Oper} {rest : List Oper} {o : Oper} {ac : Act} {w : World} {Q : Exit → Act → World → Prop} {base g n c i dn dc sn sc k off : Nat} {sp : Option Addr} {m src : List Sn} (hgd : o.guard = none) (s x : Operand)
    (ho : o.op = .call { callee := .builtin .copy, args := #[s, x], argTypes := #[46, 46] }) (hs : ac.eval s = .slice (some ⟨g, off, none⟩) dn dc) (hx : ac.eval x = .slice sp sn sc)
    (hown : KS.Own w base (.slice (some ⟨g, 0, none⟩) n c) m) (hr : KS.Rd w sp sn src) (hoff : off = i * 2) (hk : k = Nat.min sn dn) (hfit : i + k ≤ m.length)
    (h : ∀ w', KS.Own w' base (.slice (some ⟨g, 0, none⟩) n c) (m.take i ++ src.take k ++ m.drop (i + k)) → w.grownBy w' (some g) → wpList Try.prog ops Q rest (ac.put o.dst (goInt k)) w') : wpList Try.prog ops Q (o :: rest) ac w := by
  subst hoff
  obtain ⟨w', hrun, h2, h3⟩ := Kind.run_copyK (K := KS) (w := w) (dc := dc) (sc := sc) o.type hown hr hk hfit
  refine wpList_plain hgd fun _ hK => ?_
  unfold Oper.wp execOp
  simp only [ho, resolve, invoke, builtin, Sem.run_bind, Sem.run_pure, Result.andThen_ok, List.map_toArray, List.map_cons, List.map_nil, hs, hx]
  have hrun2 : (Builtin.copy_ #[46, 46] o.type #[.slice (some ⟨g, i * 2, none⟩) dn dc, .slice sp sn sc]).run Try.prog w = .ok (goInt k) w' := hrun
  rw [hrun2]
  exact hK _ _ (h w' h2 h3)
theorem step_copyS {ops : Array Oper} {o : Oper} {ac : Act} {w : World} {K : Act → World → Prop} {Q : Exit → Act → World → Prop} {E : Prop} {base g n c i dn dc sn sc k off : Nat} {sp : Option Addr} {m src : List Sn} (hgd : o.guard = none) (s x : Operand)
    (ho : o.op = .call { callee := .builtin .copy, args := #[s, x], argTypes := #[46, 46] }) (hs : ac.eval s = .slice (some ⟨g, off, none⟩) dn dc) (hx : ac.eval x = .slice sp sn sc)
    (hown : KS.Own w base (.slice (some ⟨g, 0, none⟩) n c) m) (hr : KS.Rd w sp sn src) (hoff : off = i * 2) (hk : k = Nat.min sn dn) (hfit : i + k ≤ m.length)
    (h : ∀ w', KS.Own w' base (.slice (some ⟨g, 0, none⟩) n c) (m.take i ++ src.take k ++ m.drop (i + k)) → w.grownBy w' (some g) → K (ac.put o.dst (goInt k)) w') : if Region.wanted o (yielded ops ac.tmps) = true then Oper.wp Try.prog o ac w K Q else E := by
  subst hoff
  obtain ⟨w', hrun, h2, h3⟩ := Kind.run_copyK (K := KS) (w := w) (dc := dc) (sc := sc) o.type hown hr hk hfit
  have hw : Region.wanted o (yielded ops ac.tmps) = true := by simp [Region.wanted, hgd]
  rw [if_pos hw]
  unfold Oper.wp execOp
  simp only [ho, resolve, invoke, builtin, Sem.run_bind, Sem.run_pure, Result.andThen_ok, List.map_toArray, List.map_cons, List.map_nil, hs, hx]
  have hrun2 : (Builtin.copy_ #[46, 46] o.type #[.slice (some ⟨g, i * 2, none⟩) dn dc, .slice sp sn sc]).run Try.prog w = .ok (goInt k) w' := hrun
  rw [hrun2]
  exact h w' h2 h3
theorem step_shiftS {ops : Array Oper} {o : Oper} {ac : Act} {w : World} {K : Act → World → Prop} {Q : Exit → Act → World → Prop} {E : Prop} {base g n c i dn dc sn sc off off2 : Nat} {l : List Sn} (hgd : o.guard = none) (s x : Operand)
    (ho : o.op = .call { callee := .builtin .copy, args := #[s, x], argTypes := #[46, 46] }) (hs : ac.eval s = .slice (some ⟨g, off, none⟩) dn dc) (hx : ac.eval x = .slice (some ⟨g, off2, none⟩) sn sc)
    (hown : KS.Own w base (.slice (some ⟨g, 0, none⟩) n c) l) (hi : i < l.length) (hroom : l.length + 1 ≤ c) (hoff : off = (i + 1) * 2) (hoff2 : off2 = i * 2) (hdn : dn = l.length - i) (hsn : sn = l.length + 1 - i)
    (h : ∀ w', KS.Own w' base (.slice (some ⟨g, 0, none⟩) (l.length + 1) c) (l.take (i + 1) ++ l.drop i) → w.grownBy w' (some g) → K (ac.put o.dst (goInt (l.length - i : Nat))) w') : if Region.wanted o (yielded ops ac.tmps) = true then Oper.wp Try.prog o ac w K Q else E := by
  subst hoff hoff2 hdn hsn
  obtain ⟨w', hrun, h2, h3⟩ := Kind.run_shiftK (K := KS) (w := w) (dc := dc) (sc := sc) o.type hown hi hroom
  have hw : Region.wanted o (yielded ops ac.tmps) = true := by simp [Region.wanted, hgd]
  rw [if_pos hw]
  unfold Oper.wp execOp
  simp only [ho, resolve, invoke, builtin, Sem.run_bind, Sem.run_pure, Result.andThen_ok, List.map_toArray, List.map_cons, List.map_nil, hs, hx]
  have hrun2 : (Builtin.copy_ #[46, 46] o.type #[.slice (some ⟨g, (i + 1) * 2, none⟩) (l.length - i) dc, .slice (some ⟨g, i * 2, none⟩) (l.length + 1 - i) sc]).run Try.prog w = .ok (goInt (l.length - i : Nat)) w' := hrun
  rw [hrun2]
  exact h w' h2 h3

theorem ins_room (l : List Sn) (i : Nat) (x : Sn) (hi : i < l.length) (k : Nat) (hk : k = 1) : (l.take (i + 1) ++ l.drop i).take i ++ [x].take k ++ (l.take (i + 1) ++ l.drop i).drop (i + k) = l.take i ++ [x] ++ l.drop i := by
  subst hk
  have h1 : (l.take (i + 1)).length = i + 1 := by rw [List.length_take]; omega
  rw [List.take_append_of_le_length (by omega), List.take_take, Nat.min_eq_left (by omega), List.drop_append, List.drop_of_length_le (by omega), List.nil_append, h1, Nat.sub_self]
  rfl
set_option maxHeartbeats 1600000 in
set_option maxRecDepth 100000 in
theorem insS_room (l : List Sn) (i : Nat) (x : Sn) (vb g c : Nat) (w : World) (base : Nat) (hv : KS.Own w base (.slice (some ⟨g, 0, none⟩) l.length c) l) (hi : i < l.length) (hroom : l.length + 1 ≤ c) (hn : l.length ≤ 1000) (hok : rowOk w vb = true) (hvb : rowAt w vb = snA x) (hne : vb ≠ g) :
    Calls Try.prog 64 #[.slice (some ⟨g, 0, none⟩) l.length c, .int .i64 (i : Nat), .slice (some ⟨vb, 0, none⟩) 1 1] w fun e w' => ∃ v', e = .returned v' ∧ KS.Own w' base v' (l.take i ++ [x] ++ l.drop i) ∧ w.grownBy w' (some g) := by
  obtain ⟨g', eg, _, _, _, hg2, hg3⟩ := hv.spotK (by omega)
  injection eg with eg
  injection eg with eg _ _
  subst eg
  have hc63 : c ≤ 9223372036854775807 := by
    rcases hv.2 with ⟨e, _⟩ | ⟨_, cap, _, e, _, _, _, hm, _⟩
    · cases e
    · injection e with _ _ e; subst e; simpa [maxLen] using hm
  have hov := fun off lb cb => run_overlapsS w vb g off lb cb hne hok hg2 (by rw [hg3, KS_sz]; omega)
  have hz1 : ¬ ((i : Int) = (l.length : Int)) := by omega
  have hb1 : (0 : Int) ≤ (i : Int) + 1 := by omega
  have hb2 : i ≤ l.length := by omega
  have hb3 : ¬ (c = i + 1) := by omega
  have hb4 : ¬ (c = i) := by omega
  have hb5 : (i : Int) ≤ (l.length : Int) + 1 := by omega
  have hw1 : IntKind.i64.wrap ((i : Int) + 1) = (i : Int) + 1 := by rw [IntKind.wrap_i64]; omega
  have hw2 : IntKind.i64.wrap ((l.length : Int) + 1) = (l.length : Int) + 1 := by rw [IntKind.wrap_i64]; omega
  go_enter Try.func64, Try.ntmps64
  go_wp2_with (simp only [hov])
  go_region_law (refine step_shiftS (dn := l.length - i) (dc := c - (i + 1)) (sn := l.length + 1 - i) (sc := c - i) (off := (i + 1) * 2) (off2 := i * 2) rfl _ _ rfl (by simp [Act.eval, Act.put]) (by simp [Act.eval, Act.put]) (show KS.Own w.drew base _ l from hv) hi hroom rfl rfl (by omega) (by omega) ?_; intro w2 hv2 hg4)
  have hvb2 : rowAt w2 vb = snA x := by rw [← hvb]; unfold rowAt; rw [hg4.block vb (rowOk_lt w hok) (by simpa using hne)]; rfl
  have hok2 : rowOk w2 vb = true := by rw [← hok]; unfold rowOk; rw [hg4.block vb (rowOk_lt w hok) (by simpa using hne)]; rfl
  have hll : (l.take (i + 1) ++ l.drop i).length = l.length + 1 := by simp only [List.length_append, List.length_take, List.length_drop]; omega
  have hmin : Nat.min 1 (l.length + 1 - i) = 1 := Nat.min_eq_left (by omega)
  go_wp2_with (first
    | (refine wpList_copyS (i := i) (k := 1) rfl _ _ rfl rfl rfl hv2 (Kind.Rd.single (K := KS) hok2 hvb2) rfl hmin.symm (by omega) ?_; intro w3 hv3 hg5; rw [ins_room l i x hi 1 rfl] at hv3))
  go_ret
  exact ⟨_, rfl, hv3, hg5.os.trans hg4.os, hg5.tape.trans hg4.tape, hg5.output.trans hg4.output, Nat.le_trans hg4.size hg5.size, fun k hk hkr => (hg5.block k (Nat.lt_of_lt_of_le hk hg4.size) hkr).trans (hg4.block k hk hkr)⟩

theorem ins_grow (l : List Sn) (i : Nat) (x : Sn) (hi : i < l.length) (k : Nat) (hk : k = 1) (q : Nat) (hq : q = l.length - i) :
    ((l.take i ++ List.replicate (l.length + 1 - i) (0, 0)).take i ++ [x].take k ++ (l.take i ++ List.replicate (l.length + 1 - i) (0, 0)).drop (i + k)).take (i + 1) ++ (l.drop i).take q ++ ((l.take i ++ List.replicate (l.length + 1 - i) (0, 0)).take i ++ [x].take k ++ (l.take i ++ List.replicate (l.length + 1 - i) (0, 0)).drop (i + k)).drop (i + 1 + q) = l.take i ++ [x] ++ l.drop i := by
  subst hk; subst hq
  have h1 : (l.take i).length = i := by rw [List.length_take]; omega
  have h2 : (l.take i ++ List.replicate (l.length + 1 - i) ((0, 0) : Sn)).take i = l.take i := by rw [List.take_append_of_le_length (by omega), List.take_of_length_le (by omega)]
  have h3 : (l.take i ++ [x]).length = i + 1 := by simp only [List.length_append, h1, List.length_cons, List.length_nil]
  generalize hZ : (l.take i ++ List.replicate (l.length + 1 - i) ((0, 0) : Sn)).drop (i + 1) = Z at *
  have h4 : Z.length = l.length - i := by rw [← hZ, List.length_drop, List.length_append, h1, List.length_replicate]; omega
  have h5 : (l.take i ++ [x] ++ Z).length = i + 1 + (l.length - i) := by rw [List.length_append, h3, h4]
  rw [h2, show ([x] : List Sn).take 1 = [x] from rfl, List.drop_of_length_le (l := l.take i ++ [x] ++ Z) (by omega), List.append_nil, List.take_append_of_le_length (l₁ := l.take i ++ [x]) (by omega), List.take_of_length_le (l := l.take i ++ [x]) (by omega), List.take_of_length_le (l := l.drop i) (by rw [List.length_drop]; omega)]
set_option maxHeartbeats 1600000 in
set_option maxRecDepth 100000 in
theorem insS_grow (l : List Sn) (i : Nat) (x : Sn) (vb g c : Nat) (w : World) (base : Nat) (hv : KS.Own w base (.slice (some ⟨g, 0, none⟩) l.length c) l) (hi : i < l.length) (hroom : c < l.length + 1) (hn : l.length ≤ 1000) (hbase : base ≤ w.heap.size) (hok : rowOk w vb = true) (hvb : rowAt w vb = snA x) :
    Calls Try.prog 64 #[.slice (some ⟨g, 0, none⟩) l.length c, .int .i64 (i : Nat), .slice (some ⟨vb, 0, none⟩) 1 1] w fun e w' => ∃ v', e = .returned v' ∧ KS.Own w' base v' (l.take i ++ [x] ++ l.drop i) ∧ w.grownBy w' (some g) := by
  obtain ⟨g', eg, _, hlc, _, hg2, hg3⟩ := hv.spotK (by omega)
  injection eg with eg
  injection eg with eg _ _
  subst eg
  have hrd := (Kind.Rd.of_own hv).1
  obtain rfl : c = l.length := by omega
  have hz1 : ¬ ((i : Int) = (l.length : Int)) := by omega
  have hb1 : (0 : Int) ≤ (i : Int) + 1 := by omega
  have hb2 : i ≤ l.length := by omega
  have hb4 : ¬ (l.length = i) := by omega
  have hb6 : (l.length : Int) < (l.length : Int) + 1 := by omega
  have hb5 : (i : Int) ≤ (l.length : Int) + 1 := by omega
  have hw1 : IntKind.i64.wrap ((i : Int) + 1) = (i : Int) + 1 := by rw [IntKind.wrap_i64]; omega
  have hw2 : IntKind.i64.wrap ((l.length : Int) + 1) = (l.length : Int) + 1 := by rw [IntKind.wrap_i64]; omega
  have hw3 : IntKind.i64.wrap ((l.length : Int) + 1 - (i : Int)) = ((l.length + 1 - i : Nat) : Int) := by rw [IntKind.wrap_i64]; omega
  have hvlt := rowOk_lt w hok
  have hglt := rowOk_lt w hg2
  have hll : (l.take i ++ List.replicate (l.length + 1 - i) ((0, 0) : Sn)).length = l.length + 1 := by rw [List.length_append, List.length_take, List.length_replicate]; omega
  have hmin : Nat.min 1 (l.length + 1 - i) = 1 := Nat.min_eq_left (by omega)
  have hmin2 : Nat.min (l.length - i) (l.length - i) = l.length - i := Nat.min_self _
  have hcut := hrd.cut (k := i) (cap := l.length) (by omega) (Nat.le_refl _)
  rw [if_neg hb4, KS_sz] at hcut
  have hadd : (some ⟨g, 0, none⟩ : Option Addr).map (·.add (i * 2)) = some ⟨g, i * 2, none⟩ := by simp only [Option.map_some]; unfold Addr.add; split <;> simp_all
  rw [hadd] at hcut
  generalize hZ : l.take i ++ List.replicate (l.length + 1 - i) ((0, 0) : Sn) = Z at *
  go_enter Try.func64, Try.ntmps64
  go_wp2_with (first
    | (at_builtin; refine wpList_zerosS (i := i) (k := l.length + 1 - i) (t := l.length + 1) rfl _ _ rfl rfl rfl hv (by omega) (by omega) (by omega) (by omega) (by omega) ?_; rw [hZ]; intro c2 w2 hv2 hn2 hc2 hc3; have hz2 := hn2.size; have hvb2 : rowAt w2 vb = snA x := (by rw [← hvb]; exact rowAt_below hn2 vb hvlt); have hok2 : rowOk w2 vb = true := (by rw [← hok]; exact rowOk_below hn2 vb hvlt); have hb7 : ¬ (c2 = i) := (by omega); have hb8 : ¬ (c2 = i + 1) := (by omega); have hb9 : c2 ≤ 9223372036854775807 := (by simpa [maxLen] using hc3))
    | (refine wpList_copyS (i := i) (k := 1) rfl _ _ rfl rfl rfl hv2 (Kind.Rd.single (K := KS) hok2 hvb2) rfl hmin.symm (by omega) ?_; intro w3 hv3 hg5))
  have hn3 : New w w3 := Kind.Own.grown hn2 hv2 hg5
  have hz3 := hn3.size
  have hll3 : (Z.take i ++ [x].take 1 ++ Z.drop (i + 1)).length = l.length + 1 := by simp only [List.length_append, List.length_take, List.length_drop, List.length_cons, List.length_nil]; omega
  go_region_law (refine step_copyS (i := i + 1) (k := l.length - i) (dn := l.length + 1 - (i + 1)) (dc := c2 - (i + 1)) (sn := l.length - i) (sc := l.length - i) (off := (i + 1) * 2) (sp := some ⟨g, i * 2, none⟩) rfl _ _ rfl (by simp [Act.eval, Act.put]) (by simp [Act.eval, Act.put]) (show KS.Own w3.drew _ _ _ from hv3) (hcut.new hn3.drew') rfl (by rw [show l.length + 1 - (i + 1) = l.length - i by omega]; exact hmin2.symm) (by omega) ?_; intro w4 hv4 hg6)
  have hE := ins_grow l i x hi 1 rfl (l.length - i) rfl
  rw [hZ] at hE
  rw [hE] at hv4
  have hn4 : New w w4 := Kind.Own.grown hn3.drew' (show KS.Own w3.drew _ _ _ from hv3) hg6
  go_wp2_with fail
  go_ret
  exact ⟨_, rfl, hv4.lower hbase, hn4.os, hn4.tape, hn4.output, hn4.size, fun k hk _ => hn4.block k hk⟩

theorem insS_any (v : Value) (l : List Sn) (i : Nat) (x : Sn) (vb : Nat) (w : World) (base : Nat) (hv : KS.Own w base v l) (hi : i ≤ l.length) (hn : l.length ≤ 1000) (hbase : base ≤ w.heap.size) (hok : rowOk w vb = true) (hvb : rowAt w vb = snA x) (hne : v.ownBlock ≠ some vb) :
    Calls Try.prog 64 #[v, .int .i64 (i : Nat), .slice (some ⟨vb, 0, none⟩) 1 1] w fun e w' => ∃ v', e = .returned v' ∧ KS.Own w' base v' (l.take i ++ [x] ++ l.drop i) ∧ w.grownBy w' v.ownBlock := by
  rcases Nat.lt_or_ge i l.length with h | h
  · obtain ⟨A, c, rfl, hc⟩ := hv.form
    obtain ⟨g, rfl, _⟩ := hv.spotK (by omega)
    by_cases hr : l.length + 1 ≤ c
    · exact insS_room l i x vb g c w base hv h hr hn hok hvb (fun e => hne (by rw [e]; rfl))
    · exact insS_grow l i x vb g c w base hv h (by omega) hn hbase hok hvb
  · obtain rfl : i = l.length := by omega
    rw [ins_end]
    exact insS_end v l x vb w base hv hn hbase hok hvb
end Go.Proofs.Ytkgebhmlogddcaa
/- Contracts: view.Set. -/
namespace Go.Proofs.Ytkgebhmlogddcaa
open Go.RowKit
set_option linter.unusedSimpArgs false
attribute [local go_sem] rowAt_alloc_at rowAt_alloc_past rowOk_alloc_at rowOk_alloc_past rowAt_drew rowOk_drew setRow_alloc_at setRow_alloc_past rowAt_setRow rowAt_setRow_far rowOk_setRow cell_rowOk frozen_rowOk setCell_rowOk setRow_setRow con_fold con_get con_size con_set set_all none8_cells equalIn_con storeCells_con
attribute [local go_sem] it_size it_0 it_1 it_2 it_3 it_4 it_5 it_6 it_7 it_8 it_9 it_10 it_set0 it_set1 it_set2 it_fold it_zero it_eta it_fill run_storeCells_it
attribute [local go_sem] sn_size sn_0 sn_1 sn_set0 sn_set1 sn_fold sn_eta sn_fill run_storeCells_sn eqg_sn eqg_it
attribute [local go_sem high] equalIn_sn equalIn_it

/-- the view in which an Id has a Seq -/
def setS (l : List Sn) (id s : Int) : List Sn :=
  if risS 0 l then (if id = 0 then l else if hasS l id then l.set (posS l id) (id, s) else l.take (posS l id) ++ [(id, s)] ++ l.drop (posS l id)) else []
theorem posS_le (l : List Sn) (id : Int) : posS l id ≤ l.length := by unfold posS; exact (List.takeWhile_sublist _).length_le

theorem own_seq {w : World} {base n c g p : Nat} {m : List Sn} (h : KS.Own w base (.slice (some ⟨g, 0, none⟩) n c) m) (hp : p < m.length) (s : Int) :
    KS.Own (w.setRow g ((rowAt w g).setIfInBounds (p * 2 + 1) (.int .u64 s))) base (.slice (some ⟨g, 0, none⟩) n c) (m.set p (m[p].1, s)) := by
  obtain ⟨g', eg, _, hlc, _, hg2, hg3⟩ := h.spotK (by omega)
  injection eg with eg
  injection eg with eg _ _
  subst eg
  have h1 := (own_cells h p hp w (New.rfl' w)).1
  rw [cell_rowOk w hg2] at h1
  rw [KS_sz] at hg3
  have e : (rowAt w g).setIfInBounds (p * 2 + 1) (.int .u64 s) = KS.putK (rowAt w g) p (m[p].1, s) := by
    apply Array.ext'
    apply List.ext_getElem?
    intro j
    have ht : (List.take (p * 2) (rowAt w g).toList).length = p * 2 := by rw [List.length_take, Array.length_toList]; omega
    simp only [Kind.putK, KS_sz, KS_enc, snA, Array.toList_setIfInBounds, List.append_assoc]
    rw [List.getElem?_set]
    by_cases j1 : j < p * 2
    · rw [if_neg (by omega), List.getElem?_append_left (by omega), List.getElem?_take, if_pos j1]
    · rw [List.getElem?_append_right (by omega), ht]
      by_cases j2 : j = p * 2
      · subst j2
        rw [if_neg (by omega), Nat.sub_self]
        simpa using h1
      · by_cases j3 : j = p * 2 + 1
        · subst j3
          rw [if_pos rfl, if_pos (by rw [Array.length_toList]; omega), show p * 2 + 1 - p * 2 = 1 by omega]
          rfl
        · rw [if_neg (by omega), List.getElem?_append_right (by simp; omega), List.getElem?_drop]
          congr 1
          simp; omega
  rw [e]
  exact h.putK _ hp

theorem insS_new (v : Value) (l : List Sn) (i : Nat) (x : Sn) (t : TypeId) (w0 w : World) (base : Nat) (hv : KS.Own w base v l) (hi : i ≤ l.length) (hn : l.length ≤ 1000) (h0 : New w0 w) (hb0 : w0.heap.size ≤ base) (hbase : base ≤ w.heap.size) :
    Calls Try.prog 64 #[v, .int .i64 (i : Nat), .slice (some ⟨w.heap.size, 0, none⟩) 1 1] (w.alloc (Obj.cells (snA x) t)) fun e w' => ∃ v', e = .returned v' ∧ KS.Own w' base v' (l.take i ++ [x] ++ l.drop i) ∧ New w0 w' := by
  refine (insS_any v l i x w.heap.size _ base (hv.alloc _) hi hn (by rw [World.size_alloc]; omega) (rowOk_alloc_at w _ _ _ rfl) (rowAt_alloc_at w _ _ _ rfl) (fun e => by have := (World.ownsRow.lt hv _ e).2; omega)).mono ?_
  rintro e w' ⟨v', rfl, h1, h2⟩
  exact ⟨v', rfl, h1, Kind.Own.grown (h0.alloc' _) ((hv.alloc _).lower hb0) h2⟩
set_option maxHeartbeats 1600000 in
set_option maxRecDepth 100000 in
theorem vset_any (A : Option Addr) (n c : Nat) (l : List Sn) (id s : Int) (w : World) (hl : KS.Rd w A n l) (hn : n ≤ 1000) :
    Calls Try.prog 40 #[.slice A n c, .int .u32 id, .int .u64 s] w fun e w' => ∃ v, e = .returned v ∧ KS.Own w' w.heap.size v (setS l id s) ∧ New w w' := by
  obtain rfl : l.length = n := hl.1
  have hA1 := vmay_any A l.length c l
  rcases Bool.eq_false_or_eq_true (risS 0 l) with hm | hm
  · have hris := Lib.hid hm
    have hS : setS l id s = (if id = 0 then l else if hasS l id then l.set (posS l id) (id, s) else l.take (posS l id) ++ [(id, s)] ++ l.drop (posS l id)) := by rw [setS, if_pos hm]
    rw [hm] at hA1
    have HA := Lib.hid hA1
    clear hA1 hm
    have hB1 : ∀ (A : Option Addr) (n c : Nat) (w : World), _ := fun A n c w => vfind_any A n c l id w
    by_cases h0 : id = 0
    · rw [if_pos h0] at hS
      rw [hS]
      subst h0
      clear hS
      have HB := Lib.hid hB1
      clear hB1
      go_enter Try.func40, Try.ntmps40
      go_wp2_with (first
        | (go_at_call 42; refine (HA.out _ hl (by omega)).mono ?_; rintro e w1 ⟨rfl, hb1⟩)
        | (go_at_call 57; refine (cloneS_any _ _ _ l _ (hl.new hb1) hn).mono ?_; rintro e w2 ⟨v, rfl, hv, hb⟩; obtain ⟨A2, c2, rfl, hc2, hr2⟩ := hv.rd; have hb2 := New.call hb1 hb; clear hb)
        | (go_at_call 63; refine (HB.out _ _ _ _ hr2 (by omega) hris.out).mono ?_; rintro e w3 ⟨rfl, hb⟩; have hb3 := New.call hb2 hb; have hv3 := hv.new hb; clear hb))
      go_ret
      exact ⟨_, rfl, hv3.lower hb1.size, hb3⟩
    · rw [if_neg h0] at hS
      rcases Bool.eq_false_or_eq_true (hasS l id) with hh | hh
      · obtain ⟨hp, hid, _⟩ := spos_has l id hris.out hh
        rw [hh] at hS hB1
        rw [if_pos rfl] at hS
        rw [hS, ← hid]
        rw [hid]
        have HB := Lib.hid hB1
        clear hB1 hS hh
        generalize posS l id = p at *
        have HID := Lib.hid hid
        clear hid
        have hp3 : (p : Int) < (l.length : Int) := by omega
        go_enter Try.func40, Try.ntmps40
        go_wp2_with (first
          | (go_at_call 42; refine (HA.out _ hl (by omega)).mono ?_; rintro e w1 ⟨rfl, hb1⟩)
          | (go_at_call 57; refine (cloneS_any _ _ _ l _ (hl.new hb1) hn).mono ?_; rintro e w2 ⟨v, rfl, hv, hb⟩; obtain ⟨A2, c2, rfl, hc2, hr2⟩ := hv.rd; obtain ⟨gg, rfl, _, _, hgb, hg2, hg3⟩ := hv.spotK (by omega); have hb2 := New.call hb1 hb; clear hb)
          | (go_at_call 63; refine (HB.out _ _ _ _ hr2 (by omega) hris.out).mono ?_; rintro e w3 ⟨rfl, hb⟩; have hb3 := New.call hb2 hb; have hv3 := hv.new hb; have hok3 : rowOk w3 gg = true := (by rw [rowOk_below hb gg (rowOk_lt _ hg2)]; exact hg2); have hsz3 : p * 2 + 1 < (rowAt w3 gg).size := (by rw [rowAt_below hb gg (rowOk_lt _ hg2), hg3, KS_sz]; omega); clear hb))
        go_ret
        exact ⟨_, rfl, by have := own_seq hv3 hp s; rw [HID.out] at this; exact this.lower hb1.size, hb3.row _ _ (Nat.le_trans hb1.size hgb)⟩
      · rw [hh] at hS hB1
        rw [if_neg (by simp)] at hS
        rw [hS]
        have HB := Lib.hid hB1
        have hp := posS_le l id
        clear hB1 hS hh
        generalize posS l id = p at *
        go_enter Try.func40, Try.ntmps40
        go_wp2_with (first
          | (go_at_call 42; refine (HA.out _ hl (by omega)).mono ?_; rintro e w1 ⟨rfl, hb1⟩)
          | (go_at_call 57; refine (cloneS_any _ _ _ l _ (hl.new hb1) hn).mono ?_; rintro e w2 ⟨v, rfl, hv, hb⟩; have hz2 := hb.size; obtain ⟨A2, c2, rfl, hc2, hr2⟩ := hv.rd; have hb2 := New.call hb1 hb; clear hb)
          | (go_at_call 63; refine (HB.out _ _ _ _ hr2 (by omega) hris.out).mono ?_; rintro e w3 ⟨rfl, hb⟩; have hb3 := New.call hb2 hb; have hv3 := hv.new hb; have hz3 := Nat.le_trans hz2 hb.size; clear hb)
          | (go_at_call 64; refine (insS_new _ l p (id, s) _ w _ w1.heap.size hv3 hp hn hb3 hb1.size hz3).mono ?_; rintro e w4 ⟨v4, rfl, hv4, hb4⟩))
        go_ret
        exact ⟨_, rfl, hv4.lower hb1.size, hb4⟩
  · have hS : setS l id s = [] := by rw [setS, hm]; rfl
    rw [hm] at hA1
    have HA := Lib.hid hA1
    rw [hS]
    clear hA1 hm hS
    go_enter Try.func40, Try.ntmps40
    go_wp2_with (first
      | (go_at_call 42; refine (HA.out _ hl (by omega)).mono ?_; rintro e w1 ⟨rfl, hb1⟩))
    go_ret
    exact ⟨_, rfl, Kind.Own.nil, hb1⟩
end Go.Proofs.Ytkgebhmlogddcaa
/- Views as sets, in plain Lean: the view with an Id and without it. -/
namespace Go.Proofs.Ytkgebhmlogddcaa
open Go.RowKit

def LtS (x y : Sn) : Prop := x.1 < y.1
theorem sris_pw (l : List Sn) : ∀ a : Int, risS a l = true ↔ (∀ x ∈ l, a < x.1) ∧ l.Pairwise LtS := by
  induction l with
  | nil => intro a; simp [risS]
  | cons x l ih =>
    intro a
    simp only [risS, Bool.and_eq_true, decide_eq_true_eq, ih, List.forall_mem_cons, List.pairwise_cons]
    constructor
    · rintro ⟨h1, h2, h3⟩
      exact ⟨⟨h1, fun y hy => by have := h2 y hy; omega⟩, fun y hy => h2 y hy, h3⟩
    · rintro ⟨⟨h1, _⟩, h3, h4⟩
      exact ⟨h1, fun y hy => h3 y hy, h4⟩
theorem uniqS {l : List Sn} (h : l.Pairwise LtS) {x y : Sn} (hx : x ∈ l) (hy : y ∈ l) (e : x.1 = y.1) : x = y := by
  induction l with
  | nil => cases hx
  | cons z l ih =>
    rw [List.pairwise_cons] at h
    rcases List.mem_cons.1 hx with hx | hx <;> rcases List.mem_cons.1 hy with hy | hy
    · rw [hx, hy]
    · have := h.1 _ hy; unfold LtS at this; rw [← hx] at this; omega
    · have := h.1 _ hx; unfold LtS at this; rw [← hy] at this; omega
    · exact ih h.2 hx hy
theorem findS_iff {v : List Sn} (hm : risS 0 v = true) (id s : Int) : findS v id = some s ↔ (id, s) ∈ v := by
  rw [findS, if_pos hm, Option.map_eq_some_iff]
  constructor
  · rintro ⟨x, hx, rfl⟩
    have h1 := List.find?_some hx
    have h2 := List.mem_of_find?_eq_some hx
    simp only [beq_iff_eq] at h1
    subst h1; exact h2
  · intro h
    cases hf : v.find? (fun x => x.1 == id) with
    | none => rw [List.find?_eq_none] at hf; exact absurd (hf _ h) (by simp)
    | some x =>
      have h1 := List.find?_some hf
      have h2 := List.mem_of_find?_eq_some hf
      simp only [beq_iff_eq] at h1
      exact ⟨x, rfl, by rw [uniqS ((sris_pw v 0).1 hm).2 h2 h (by simpa using h1)]⟩
theorem findS_none_iff {v : List Sn} (hm : risS 0 v = true) (id : Int) : findS v id = none ↔ ∀ x ∈ v, x.1 ≠ id := by
  constructor
  · rintro h ⟨a, s⟩ hx e
    have e : a = id := e
    subst e
    rw [(findS_iff hm a s).2 hx] at h; cases h
  · intro h
    cases hf : findS v id with
    | none => rfl
    | some s => exact absurd rfl (h _ ((findS_iff hm id s).1 hf))
theorem drop_mem {v : List Sn} (hm : risS 0 v = true) (id : Int) : risS 0 (dropS v id) = true ∧ (∀ y, y ∈ dropS v id ↔ (y ∈ v ∧ y.1 ≠ id)) ∧ dropS (dropS v id) id = dropS v id := by
  have h1 := (sris_pw v 0).1 hm
  have hd : dropS v id = v.filter fun x => x.1 != id := by rw [dropS, if_pos hm]
  have hr : risS 0 (dropS v id) = true := by
    rw [hd]; exact (sris_pw _ 0).2 ⟨fun x hx => h1.1 x (List.mem_filter.1 hx).1, h1.2.sublist List.filter_sublist⟩
  refine ⟨hr, fun y => by rw [hd, List.mem_filter]; simp, ?_⟩
  rw [dropS, if_pos hr, hd, List.filter_filter]; simp
theorem posS_split (id : Int) (v : List Sn) : ∀ a, risS a v = true → (∀ x ∈ v.take (posS v id), x.1 < id) ∧ (∀ x ∈ v.drop (posS v id), id ≤ x.1) := by
  induction v with
  | nil => intro a _; simp
  | cons x v ih =>
    intro a hm
    by_cases hx : x.1 < id
    · have e : posS (x :: v) id = posS v id + 1 := by simp [posS, hx]
      simp only [risS, Bool.and_eq_true] at hm
      obtain ⟨h1, h2⟩ := ih x.1 hm.2
      rw [e, List.take_succ_cons, List.drop_succ_cons]
      exact ⟨fun y hy => by
        rcases List.mem_cons.1 hy with rfl | hy
        · exact hx
        · exact h1 y hy, h2⟩
    · have e : posS (x :: v) id = 0 := by simp [posS, hx]
      have h2 := (sris_pw (x :: v) a).1 hm
      rw [e]
      refine ⟨by simp, fun y hy => ?_⟩
      rcases List.mem_cons.1 hy with rfl | hy
      · omega
      · have := (List.pairwise_cons.1 h2.2).1 y hy; unfold LtS at this; omega
theorem set_split {v : List Sn} {id : Int} (s : Int) (hm : risS 0 v = true) (h0 : id ≠ 0) : ∃ A M B, setS v id s = A ++ [(id, s)] ++ B ∧ v = A ++ M ++ B ∧ (∀ m ∈ M, m.1 = id) ∧ (∀ a ∈ A, a.1 < id) ∧ ∀ b ∈ B, id < b.1 := by
  obtain ⟨hA, hB⟩ := posS_split id v 0 hm
  have hle := posS_le v id
  rw [setS, if_pos hm, if_neg h0]
  cases hh : hasS v id
  · refine ⟨v.take (posS v id), [], v.drop (posS v id), by simp, by simp, by simp, hA, fun b hb => ?_⟩
    have h1 := hB b hb
    have h2 : b.1 ≠ id := fun e => by
      have : hasS v id = true := by rw [hasS, List.any_eq_true]; exact ⟨b, List.mem_of_mem_drop hb, by simpa using e⟩
      rw [hh] at this; cases this
    omega
  · obtain ⟨hp, he, _⟩ := spos_has v id hm hh
    refine ⟨v.take (posS v id), [v[posS v id]], v.drop (posS v id + 1), ?_, by simp, by simpa using he, hA, fun b hb => ?_⟩
    · rw [if_pos rfl, List.set_eq_take_append_cons_drop, if_pos hp]; simp
    · obtain ⟨q, hq, rfl⟩ := List.getElem_of_mem hb
      simp only [List.length_drop] at hq
      have := risS_lt 0 v hm (posS v id) (posS v id + 1 + q) (by omega) (by omega)
      rw [List.getElem_drop]; omega
theorem set_mem {v : List Sn} {id : Int} (s : Int) (hm : risS 0 v = true) (h0 : 0 < id) : risS 0 (setS v id s) = true ∧ (∀ y, y ∈ setS v id s ↔ y = (id, s) ∨ (y ∈ v ∧ y.1 ≠ id)) ∧ dropS (setS v id s) id = dropS v id := by
  obtain ⟨A, M, B, hS, hv, hM, hA, hB⟩ := set_split s hm (show id ≠ 0 by omega)
  obtain ⟨h1, h2⟩ := (sris_pw v 0).1 hm
  have hr : risS 0 (setS v id s) = true := by
    rw [hS]
    refine (sris_pw _ 0).2 ⟨fun x hx => ?_, ?_⟩
    · simp only [List.mem_append, List.mem_singleton] at hx
      rcases hx with (hx | rfl) | hx
      · exact h1 x (by rw [hv]; simp [hx])
      · exact h0
      · exact h1 x (by rw [hv]; simp [hx])
    · rw [hv, List.append_assoc, List.pairwise_append] at h2
      obtain ⟨p1, p2, p3⟩ := h2
      rw [List.pairwise_append] at p2
      rw [List.append_assoc, List.pairwise_append]
      refine ⟨p1, ?_, fun a ha b hb => ?_⟩
      · rw [List.singleton_append, List.pairwise_cons]
        exact ⟨fun b hb => hB b hb, p2.2.1⟩
      · rcases List.mem_append.1 hb with hb | hb
        · rw [List.mem_singleton.1 hb]; exact hA a ha
        · exact p3 a ha b (List.mem_append_right _ hb)
  refine ⟨hr, fun y => ?_, ?_⟩
  · rw [hS, hv]
    simp only [List.mem_append, List.mem_singleton]
    constructor
    · rintro ((h | h) | h)
      · exact .inr ⟨.inl (.inl h), by have := hA y h; omega⟩
      · exact .inl h
      · exact .inr ⟨.inr h, by have := hB y h; omega⟩
    · rintro (h | ⟨(h | h) | h, hz⟩)
      · exact .inl (.inr h)
      · exact .inl (.inl h)
      · exact absurd (hM y h) hz
      · exact .inr h
  · rw [dropS, if_pos hr, dropS, if_pos hm, hS, hv]
    have e : M.filter (fun x => x.1 != id) = [] := by
      rw [List.filter_eq_nil_iff]
      intro m hm; simp [hM m hm]
    simp [List.filter_append, e]

theorem set_may {v : List Sn} (id s : Int) (h : risS 0 v = true) (h0 : 0 ≤ id) : risS 0 (setS v id s) = true := by
  by_cases e : id = 0
  · rw [setS, if_pos h, if_pos e]; exact h
  · exact (set_mem s h (by omega)).1
theorem set_len (v : List Sn) (id s : Int) : (setS v id s).length ≤ v.length + 1 := by
  have := posS_le v id
  unfold setS
  repeat' split
  all_goals simp
  omega
theorem drop_len (v : List Sn) (id : Int) : (dropS v id).length ≤ v.length + 1 := by
  unfold dropS
  split
  · have := List.length_filter_le (fun x : Sn => x.1 != id) v; omega
  · simp
theorem ris_pos {v : List Sn} (h : risS 0 v = true) : PosS v := fun x hx => Int.le_of_lt (((sris_pw v 0).1 h).1 x hx)
end Go.Proofs.Ytkgebhmlogddcaa
/- Contracts of the reference of the layer view: what is told, and what is not, by rising Seq. -/
namespace Go.Proofs.Ytkgebhmlogddcaa
open Go.RowKit
set_option linter.unusedSimpArgs false
attribute [local go_sem] rowAt_alloc_at rowAt_alloc_past rowOk_alloc_at rowOk_alloc_past rowAt_drew rowOk_drew setRow_alloc_at setRow_alloc_past rowAt_setRow rowAt_setRow_far rowOk_setRow cell_rowOk frozen_rowOk setCell_rowOk setRow_setRow con_fold con_get con_size con_set set_all none8_cells equalIn_con storeCells_con
attribute [local go_sem] it_size it_0 it_1 it_2 it_3 it_4 it_5 it_6 it_7 it_8 it_9 it_10 it_set0 it_set1 it_set2 it_fold it_zero it_eta it_fill run_storeCells_it
attribute [local go_sem] sn_size sn_0 sn_1 sn_set0 sn_set1 sn_fold sn_eta sn_fill run_storeCells_sn eqg_sn eqg_it
attribute [local go_sem high] equalIn_sn equalIn_it

/-- is an item as the view has it? -/
def toldP (v : List Sn) (x : It) : Bool := (findS v x.1).isSome && ((findS v x.1).getD 0 == x.2.2.1)
set_option maxHeartbeats 800000 in
theorem told_any (B : Option Addr) (m d : Nat) (v : List Sn) (x : It) (w : World) (hv : KS.Rd w B m v) (hm : m ≤ 140737488355328) (hP : PosS v) :
    Calls Try.prog 90 #[.slice B m d, .agg (itA x)] w fun e w' => e = .returned (.bool (toldP v x)) ∧ New w w' := by
  obtain rfl : v.length = m := hv.1
  have hA1 := rvof_any B v.length d v x.1
  unfold toldP
  generalize (findS v x.1).isSome = st at *
  generalize (findS v x.1).getD 0 = sv at *
  cases st
  all_goals
    have HA := Lib.hid hA1
    go_enter Try.func90, Try.ntmps90
    go_wp2_with fail
    have hnW : New w (w.alloc (Obj.cells (itA x) 28)) := (New.rfl' w).alloc' _
    generalize hW : (w.alloc (Obj.cells (itA x) 28)) = W at *
    have hWz0 : w.heap.size < W.heap.size := by rw [← hW]; simp only [World.size_alloc]; omega
    have hWa0 : rowAt W (w.heap.size) = itA x := by rw [← hW]; simp [go_sem]
    have hWo0 : rowOk W (w.heap.size) = true := by rw [← hW]; simp [go_sem]
    clear hW
    have hWA := fun w' (h : New W w') n hn => rowAt_below h n hn
    have hWO := fun w' (h : New W w') n hn => rowOk_below h n hn
    have hWS := fun w' (h : New W w') n (hn : n < W.heap.size) => eq_true (Nat.lt_of_lt_of_le hn h.size)
    have hv2 := hv.new hnW
    go_wp2_with (first
      | (go_at_call 31; refine (HA.out _ hv2 (by omega) hP).mono ?_; rintro e w1 ⟨rfl, hb⟩))
    go_ret
    exact ⟨rfl, hnW.call hb⟩

/-- where an item stands by its Seq: behind those that are not above it -/
def qpos (L : List It) (x : It) : Nat := (L.takeWhile fun y => decide (y.2.2.1 ≤ x.2.2.1)).length
def insQ (L : List It) (x : It) : List It := L.take (qpos L x) ++ [x] ++ L.drop (qpos L x)
/-- the items that are not as the view has them, by rising Seq -/
def rise (v : List Sn) (l : List It) : List It := l.foldl (fun out x => if toldP v x then out else insQ out x) []
theorem qpos_le (L : List It) (x : It) : qpos L x ≤ L.length := by unfold qpos; exact (List.takeWhile_sublist _).length_le
theorem insQ_len (L : List It) (x : It) : (insQ L x).length = L.length + 1 := by
  have := qpos_le L x
  simp only [insQ, List.length_append, List.length_take, List.length_drop, List.length_cons, List.length_nil]; omega
theorem rise_step (v : List Sn) (l : List It) (k : Nat) (hk : k < l.length) : rise v (l.take (k + 1)) = if toldP v l[k] then rise v (l.take k) else insQ (rise v (l.take k)) l[k] := by
  unfold rise
  rw [List.take_succ_eq_append_getElem hk, List.foldl_append]; rfl
theorem rise_len (v : List Sn) (l : List It) : (rise v l).length ≤ l.length := by
  have h : ∀ (l o : List It), (l.foldl (fun out x => if toldP v x then out else insQ out x) o).length ≤ l.length + o.length := by
    intro l
    induction l with
    | nil => intro o; simp
    | cons x l ih =>
      intro o
      rw [List.foldl_cons]
      have := ih (if toldP v x then o else insQ o x)
      split at this
      · rename_i h; rw [if_pos h]; simp only [List.length_cons]; omega
      · rename_i h; rw [if_neg h]; rw [insQ_len] at this; simp only [List.length_cons]; omega
  have := h l []
  rw [List.length_nil, Nat.add_zero] at this
  exact this
theorem qpos_lt (L : List It) (x : It) (q : Nat) (h : q < qpos L x) (hq : q < L.length) : L[q].2.2.1 ≤ x.2.2.1 := by
  induction L generalizing q with
  | nil => simp at hq
  | cons y L ih =>
    by_cases hy : y.2.2.1 ≤ x.2.2.1
    · have e : qpos (y :: L) x = qpos L x + 1 := by simp [qpos, List.takeWhile_cons, hy]
      rcases q with _ | q
      · simpa using hy
      · exact ih q (by omega) (by simpa using hq)
    · have e : qpos (y :: L) x = 0 := by simp [qpos, List.takeWhile_cons, hy]
      omega
theorem qpos_at (L : List It) (x : It) (h : qpos L x < L.length) : x.2.2.1 < L[qpos L x].2.2.1 := by
  induction L with
  | nil => simp at h
  | cons y L ih =>
    by_cases hy : y.2.2.1 ≤ x.2.2.1
    · have e : qpos (y :: L) x = qpos L x + 1 := by simp [qpos, List.takeWhile_cons, hy]
      have h2 : qpos L x < L.length := by rw [e] at h; simpa using h
      have := ih h2
      simp only [e, List.getElem_cons_succ]
      exact this
    · have e : qpos (y :: L) x = 0 := by simp [qpos, List.takeWhile_cons, hy]
      simp only [e, List.getElem_cons_zero]; omega

set_option maxHeartbeats 3200000 in
set_option maxRecDepth 100000 in
theorem rising_any (B : Option Addr) (m d : Nat) (v : List Sn) (A : Option Addr) (n c : Nat) (l : List It) (w : World) (hv : KS.Rd w B m v) (hl : KI.Rd w A n l) (hm : m ≤ 1000) (hn : n ≤ 1000) (hP : PosS v) :
    Calls Try.prog 74 #[.slice B m d, .slice A n c] w fun e w' => ∃ u, e = .returned u ∧ KI.Own w' w.heap.size u (rise v l) ∧ New w w' := by
  obtain rfl : v.length = m := hv.1
  obtain rfl : l.length = n := hl.1
  go_enter Try.func74, Try.ntmps74
  have hwA := fun w' (h : New w w') n hn => rowAt_below h n hn
  have hwO := fun w' (h : New w w') n hn => rowOk_below h n hn
  have hwS := fun w' (h : New w w') n (hn : n < w.heap.size) => eq_true (Nat.lt_of_lt_of_le hn h.size)
  go_wp2_with fail
  go_loopw [5, 6] (fun u i wr => ∃ k : Nat, k ≤ l.length ∧ i = .int .i64 k ∧ New w wr ∧ KI.Own wr w.heap.size u (rise v (l.take k))) (fun _ i _ => l.length - (intOf i).toNat)
  case atStart => exact ⟨0, by omega, rfl, New.rfl' w, Kind.Own.nil⟩
  case round =>
    obtain ⟨k, hk, rfl, hr, hu⟩ := hrel
    by_cases hlt : k < l.length
    · have hst := rise_step v l k hlt
      have hA1 := fun w' hv => told_any B v.length d v l[k] w' hv (by omega) hP
      have hlen : (rise v (l.take k)).length ≤ k := by have := rise_len v (l.take k); rw [List.length_take] at this; omega
      have hl0 := hl
      obtain ⟨bhl, ohl, rfl, hbhl, hchl⟩ := hl.2 (by omega)
      have hrhl : ∀ w', New w w' → ∀ k (hk : k < l.length), w'.cell? ⟨bhl, ohl + k * 11, none⟩ = (itA l[k])[0]? := fun w' hw k hk => (hw.cell (p := ⟨bhl, _, none⟩) hbhl).trans (hchl k hk 0 (by decide))
      have hshl : ∀ w', New w w' → ∀ k (hk : k < l.length) j, j < 11 → w'.cell? ⟨bhl, ohl + k * 11 + j, none⟩ = (itA l[k])[j]? := fun w' hw k hk j hj => (hw.cell (p := ⟨bhl, _, none⟩) hbhl).trans (hchl k hk j hj)
      clear hchl
      generalize rise v (l.take k) = L at *
      obtain ⟨A1, c1, rfl, hc1, hro⟩ := hu.rd
      rcases Bool.eq_false_or_eq_true (toldP v l[k]) with h1 | h1
      · rw [h1, if_pos rfl] at hst
        rw [h1] at hA1
        have HA := Lib.hid hA1
        have hst2 := Lib.hid hst
        clear hA1 hst h1
        go_wp2_with (first
          | (go_at_call 90; refine (HA.out _ (hv.new hr)).mono ?_; rintro e w1 ⟨rfl, hb1⟩; have hr1 := hr.call hb1; have hu1 := hu.new hb1))
        go_roundw
        case rel => exact ⟨k + 1, by omega, by go_num, hr1, by rw [hst2.out]; exact hu1⟩
        case measure => simp [intOf]; omega
      · rw [h1, if_neg (by simp)] at hst
        rw [h1] at hA1
        have HA := Lib.hid hA1
        have hst2 := Lib.hid hst
        clear hA1 hst h1
        go_wp2_with (first
          | (go_at_call 90; refine (HA.out _ (hv.new hr)).mono ?_; rintro e w1 ⟨rfl, hb1⟩; have hr1 := hr.call hb1; have hu1 := hu.new hb1; have hro1 := hro.new hb1))
        have hpl := qpos_le L l[k]
        have hqa := Lib.hid (qpos_at L l[k])
        have hqb := Lib.hid (qpos_lt L l[k])
        generalize hqp' : qpos L l[k] = p at *
        have hqp := Lib.hid hqp'
        clear hqp'
        have i1 : (p : Int) ≤ (L.length : Int) := by omega
        have i2 : (p : Int) ≤ (c1 : Int) := by omega
        have i3 : (L.length : Int) ≤ (c1 : Int) := by omega
        have hL := Lib.hid (show L.length ≤ k from hlen)
        go_loopw [7] (fun j wi => ∃ q : Nat, q ≤ p ∧ j = .int .i64 q ∧ New w wi ∧ New w1 wi) (fun j _ => p - (intOf j).toNat)
        case atStart => exact ⟨0, by omega, rfl, hr1, New.rfl' w1⟩
        case round =>
          obtain ⟨q, hq, rfl, hri, hri2⟩ := hrel
          by_cases hqp2 : q < p
          · have hle := hqb.out q hqp2 (by omega)
            have hqL : q < L.length := by omega
            obtain ⟨bhro1, ohro1, rfl, hbhro1, hchro1⟩ := hro1.2 (by omega)
            have hrhro1 : ∀ w', New w1 w' → ∀ k (hk : k < L.length), w'.cell? ⟨bhro1, ohro1 + k * 11, none⟩ = (itA L[k])[0]? := fun w' hw k hk => (hw.cell (p := ⟨bhro1, _, none⟩) hbhro1).trans (hchro1 k hk 0 (by decide))
            have hshro1 : ∀ w', New w1 w' → ∀ k (hk : k < L.length) j, j < 11 → w'.cell? ⟨bhro1, ohro1 + k * 11 + j, none⟩ = (itA L[k])[j]? := fun w' hw k hk j hj => (hw.cell (p := ⟨bhro1, _, none⟩) hbhro1).trans (hchro1 k hk j hj)
            clear hchro1
            go_wp2_with fail
            go_quiet (fail)
            go_wp2_with fail
            go_roundw
            case rel => exact ⟨q + 1, by omega, by go_num, below_drewN hri _, below_drewN hri2 _⟩
            case measure => simp [intOf]; omega
          · obtain rfl : q = p := by omega
            by_cases hend : q < L.length
            · have hle := hqa.out hend
              have hce : ¬ c1 = q := by omega
              have hcut := fun w' (h : New w1 w') => (hro1.new h).cut (k := q) (by omega) hc1
              obtain ⟨bhro1, ohro1, rfl, hbhro1, hchro1⟩ := hro1.2 (by omega)
              have hrhro1 : ∀ w', New w1 w' → ∀ k (hk : k < L.length), w'.cell? ⟨bhro1, ohro1 + k * 11, none⟩ = (itA L[k])[0]? := fun w' hw k hk => (hw.cell (p := ⟨bhro1, _, none⟩) hbhro1).trans (hchro1 k hk 0 (by decide))
              have hshro1 : ∀ w', New w1 w' → ∀ k (hk : k < L.length) j, j < 11 → w'.cell? ⟨bhro1, ohro1 + k * 11 + j, none⟩ = (itA L[k])[j]? := fun w' hw k hk j hj => (hw.cell (p := ⟨bhro1, _, none⟩) hbhro1).trans (hchro1 k hk j hj)
              clear hchro1
              have HR := Lib.hid (show ∀ w', New w1 w' → KI.Rd w' (some ⟨bhro1, ohro1 + q * 11, none⟩) (L.length - q) (L.drop q) from fun w' h => by
                have := hcut w' h
                rw [if_neg hce, KI_sz, Option.map_some, show (⟨bhro1, ohro1, none⟩ : Addr).add (q * 11) = ⟨bhro1, ohro1 + q * 11, none⟩ from by unfold Addr.add; split <;> simp_all] at this
                exact this)
              clear hcut
              go_wp2_with fail
              go_quiet (fail)
              go_wp2_with (first
                | (at_builtin; refine Kind.wpList_appendN rfl _ _ rfl rfl (Kind.Own.nil (K := KI) (base := wr.heap.size)) rfl ((hro1.new (below_drewN hri2 _)).upto (k := q) hpl) (by simp; omega) KI_b (Nat.le_refl _) ?_; intro v3 w3 hv3 hg3; have hr3 : New wr w3 := Kind.Own.grown (below_drewN (New.rfl' wr) _) (Kind.Own.nil (K := KI)) hg3; clear hg3; rw [List.nil_append] at hv3; have hrw3 := hri.call hr3)
                | (at_builtin; refine Kind.wpList_append1 rfl _ _ rfl rfl (hv3.alloc _) l[k] w3.heap.size rfl (by go_simp) (by go_simp <;> rfl) (by rw [List.length_take]; omega) KI_b (Nat.le_trans hr3.size (by simp only [World.size_alloc]; omega)) ?_; intro v4 w4 hv4 _ hg4; have hr4 : New wr w4 := Kind.Own.grown (hr3.alloc' _) (hv3.alloc _) hg4; clear hg4)
                | (at_builtin; refine Kind.wpList_appendN rfl _ _ rfl rfl hv4 rfl (HR.out _ (hri2.call hr4)) (by simp only [List.length_append, List.length_take, List.length_drop, List.length_cons, List.length_nil]; omega) KI_b hr4.size ?_; intro v5 w5 hv5 hg5; have hr5 : New wr w5 := Kind.Own.grown hr4 hv4 hg5; clear hg5))
              go_roundw
              case rel => exact ⟨k + 1, by omega, by go_num, hri.call hr5, by rw [hst2.out, insQ, hqp.out]; exact hv5.lower hri.size⟩
              case measure => simp [intOf]; omega
            · have hcut := fun w' (h : New w1 w') => (hro1.new h).cut (k := q) (by omega) hc1
              by_cases hcp : c1 = q
              all_goals
                first
                | (have HR := Lib.hid (show ∀ w', New w1 w' → KI.Rd w' A1 (L.length - q) (L.drop q) from fun w' h => by have := hcut w' h; rwa [if_pos hcp] at this))
                | (have HR := Lib.hid (show ∀ w', New w1 w' → KI.Rd w' (Option.map (fun x => x.add (q * 11)) A1) (L.length - q) (L.drop q) from fun w' h => by have := hcut w' h; rwa [if_neg hcp] at this))
                clear hcut
                go_wp2_with fail
                go_quiet (fail)
                go_wp2_with (first
                  | (at_builtin; refine Kind.wpList_appendN rfl _ _ rfl rfl (Kind.Own.nil (K := KI) (base := wr.heap.size)) rfl ((hro1.new (below_drewN hri2 _)).upto (k := q) hpl) (by simp; omega) KI_b (Nat.le_refl _) ?_; intro v3 w3 hv3 hg3; have hr3 : New wr w3 := Kind.Own.grown (below_drewN (New.rfl' wr) _) (Kind.Own.nil (K := KI)) hg3; clear hg3; rw [List.nil_append] at hv3; have hrw3 := hri.call hr3)
                  | (at_builtin; refine Kind.wpList_append1 rfl _ _ rfl rfl (hv3.alloc _) l[k] w3.heap.size rfl (by go_simp) (by go_simp <;> rfl) (by rw [List.length_take]; omega) KI_b (Nat.le_trans hr3.size (by simp only [World.size_alloc]; omega)) ?_; intro v4 w4 hv4 _ hg4; have hr4 : New wr w4 := Kind.Own.grown (hr3.alloc' _) (hv3.alloc _) hg4; clear hg4)
                  | (at_builtin; refine Kind.wpList_appendN rfl _ _ rfl rfl hv4 rfl (HR.out _ (hri2.call hr4)) (by simp only [List.length_append, List.length_take, List.length_drop, List.length_cons, List.length_nil]; omega) KI_b hr4.size ?_; intro v5 w5 hv5 hg5; have hr5 : New wr w5 := Kind.Own.grown hr4 hv4 hg5; clear hg5))
                go_roundw
                case rel => exact ⟨k + 1, by omega, by go_num, hri.call hr5, by rw [hst2.out, insQ, hqp.out]; exact hv5.lower hri.size⟩
                case measure => simp [intOf]; omega
    · go_wp2_with fail
      go_ret
      exact ⟨_, rfl, by rw [List.take_of_length_le (by omega)] at hu; exact hu, hr⟩
end Go.Proofs.Ytkgebhmlogddcaa
/- The order by Seq; insertion sort of a part of a row of items. -/
namespace Go.Proofs.Ytkgebhmlogddcaa
open Go.RowKit
set_option linter.unusedSimpArgs false
attribute [local go_sem] rowAt_alloc_at rowAt_alloc_past rowOk_alloc_at rowOk_alloc_past rowAt_drew rowOk_drew setRow_alloc_at setRow_alloc_past rowAt_setRow rowAt_setRow_far rowOk_setRow cell_rowOk frozen_rowOk setCell_rowOk setRow_setRow con_fold con_get con_size con_set set_all none8_cells equalIn_con storeCells_con
attribute [local go_sem] it_size it_0 it_1 it_2 it_3 it_4 it_5 it_6 it_7 it_8 it_9 it_10 it_set0 it_set1 it_set2 it_fold it_zero it_eta it_fill run_storeCells_it

/-! ### by rising Seq, of equal ones as they stood -/
def isort (l : List It) : List It := l.foldl insQ []
def SeqLe (x y : It) : Prop := x.2.2.1 ≤ y.2.2.1
theorem isort_nil : isort [] = [] := rfl
theorem isort_snoc (l : List It) (x : It) : isort (l ++ [x]) = insQ (isort l) x := by simp [isort]
theorem isort_one (x : It) : isort [x] = [x] := by simp [isort, insQ, qpos]
theorem isort_len (l : List It) : (isort l).length = l.length := by
  have h : ∀ (l o : List It), (l.foldl insQ o).length = l.length + o.length := by
    intro l
    induction l with
    | nil => intro o; simp
    | cons x l ih => intro o; rw [List.foldl_cons, ih, insQ_len, List.length_cons]; omega
  rw [isort, h]; simp
theorem insQ_sorted {L : List It} (x : It) (h : L.Pairwise SeqLe) : (insQ L x).Pairwise SeqLe := by
  induction L with
  | nil => simp [insQ, qpos]
  | cons y L ih =>
    rw [List.pairwise_cons] at h
    by_cases hy : y.2.2.1 ≤ x.2.2.1
    · have e : qpos (y :: L) x = qpos L x + 1 := by simp [qpos, hy]
      have e2 : insQ (y :: L) x = y :: insQ L x := by rw [insQ, e]; simp [insQ]
      rw [e2, List.pairwise_cons]
      refine ⟨fun z hz => ?_, ih h.2⟩
      have : z ∈ L ∨ z = x := by
        unfold insQ at hz
        rw [List.append_assoc, List.mem_append, List.mem_append, List.mem_singleton] at hz
        rcases hz with hz | hz | hz
        · exact .inl (List.mem_of_mem_take hz)
        · exact .inr hz
        · exact .inl (List.mem_of_mem_drop hz)
      rcases this with hz | rfl
      · exact h.1 z hz
      · exact hy
    · have e : qpos (y :: L) x = 0 := by simp [qpos, hy]
      have e2 : insQ (y :: L) x = x :: y :: L := by rw [insQ, e]; simp
      rw [e2, List.pairwise_cons]
      refine ⟨fun z hz => ?_, List.pairwise_cons.2 h⟩
      unfold SeqLe
      rcases List.mem_cons.1 hz with rfl | hz
      · omega
      · have := h.1 z hz; unfold SeqLe at this; omega
theorem isort_sorted (l : List It) : (isort l).Pairwise SeqLe := by
  have h : ∀ (l o : List It), o.Pairwise SeqLe → (l.foldl insQ o).Pairwise SeqLe := by
    intro l
    induction l with
    | nil => intro o ho; exact ho
    | cons x l ih => intro o ho; exact ih _ (insQ_sorted x ho)
  exact h l [] List.Pairwise.nil
theorem qpos_iff {S : List It} (x : It) (h : S.Pairwise SeqLe) (q : Nat) (hq : q < S.length) : x.2.2.1 < S[q].2.2.1 ↔ qpos S x ≤ q := by
  constructor
  · intro h1
    rcases Nat.lt_or_ge q (qpos S x) with h2 | h2
    · have := qpos_lt S x q h2 hq; omega
    · exact h2
  · intro h1
    have h2 := qpos_at S x (by omega)
    rcases Nat.lt_or_eq_of_le h1 with h3 | h3
    · have h4 := (List.pairwise_iff_getElem.1 h) (qpos S x) q (by omega) hq h3
      unfold SeqLe at h4; omega
    · subst h3; exact h2
/-- a part of a list in order -/
def sortSeg (L : List It) (a b : Nat) : List It := L.take a ++ isort ((L.drop a).take (b - a)) ++ L.drop b
theorem sortSeg_len (L : List It) (a b : Nat) (hab : a ≤ b) (hb : b ≤ L.length) : (sortSeg L a b).length = L.length := by
  simp only [sortSeg, List.length_append, isort_len, List.length_take, List.length_drop]; omega
theorem sortSeg_start (L : List It) (a : Nat) : sortSeg L a (a + 1) = L := by
  rw [sortSeg, show a + 1 - a = 1 by omega]
  rcases Nat.lt_or_ge a L.length with h | h
  · have e : (L.drop a).take 1 = [L[a]] := by
      rw [List.drop_eq_getElem_cons h]; rfl
    rw [e, isort_one, List.append_assoc]
    simp
  · rw [List.drop_of_length_le h, List.drop_of_length_le (by omega), List.take_of_length_le h]; simp [isort]
theorem sortSeg_same (L : List It) (a : Nat) : sortSeg L a a = L := by rw [sortSeg, Nat.sub_self]; simp [isort]
/-- an element on its way down -/
def stageI (P S R : List It) (x : It) (q : Nat) : List It := P ++ S.take q ++ [x] ++ S.drop q ++ R
theorem stageI_len (P S R : List It) (x : It) (q : Nat) (hq : q ≤ S.length) : (stageI P S R x q).length = P.length + S.length + 1 + R.length := by
  simp only [stageI, List.length_append, List.length_take, List.length_drop, List.length_cons, List.length_nil]; omega
theorem stageI_at (P S R : List It) (x : It) (q : Nat) (hq : q ≤ S.length) (h : P.length + q < (stageI P S R x q).length) : (stageI P S R x q)[P.length + q] = x := by
  have e : (P ++ S.take q).length = P.length + q := by rw [List.length_append, List.length_take]; omega
  have h1 : stageI P S R x q = (P ++ S.take q) ++ x :: (S.drop q ++ R) := by simp [stageI]
  have h2 : (stageI P S R x q)[P.length + q]? = some x := by
    rw [h1, List.getElem?_append_right (by omega), e, Nat.sub_self]; rfl
  rw [List.getElem?_eq_getElem h] at h2
  exact Option.some.inj h2
theorem stageI_split (P S R : List It) (x : It) (q : Nat) (hq : q + 1 ≤ S.length) : stageI P S R x (q + 1) = (P ++ S.take q) ++ S[q] :: x :: (S.drop (q + 1) ++ R) ∧ stageI P S R x q = (P ++ S.take q) ++ x :: S[q] :: (S.drop (q + 1) ++ R) := by
  have e1 : S.take (q + 1) = S.take q ++ [S[q]] := List.take_succ_eq_append_getElem (by omega)
  have e2 : S.drop q = S[q] :: S.drop (q + 1) := List.drop_eq_getElem_cons (by omega)
  constructor
  · rw [stageI, e1]; simp only [List.append_assoc, List.singleton_append, List.cons_append, List.nil_append]
  · rw [stageI, e2]; simp only [List.append_assoc, List.singleton_append, List.cons_append, List.nil_append]
theorem stageI_below (P S R : List It) (x : It) (q : Nat) (hq : q + 1 ≤ S.length) (h : P.length + q < (stageI P S R x (q + 1)).length) : (stageI P S R x (q + 1))[P.length + q] = S[q] := by
  have e : (P ++ S.take q).length = P.length + q := by rw [List.length_append, List.length_take]; omega
  have h1 := (stageI_split P S R x q hq).1
  have h2 : (stageI P S R x (q + 1))[P.length + q]? = some S[q] := by
    rw [h1, List.getElem?_append_right (by omega), e, Nat.sub_self]; rfl
  rw [List.getElem?_eq_getElem h] at h2
  exact Option.some.inj h2
theorem set_two (U V : List It) (a b c d : It) : ((U ++ a :: b :: V).set (U.length + 1) c).set U.length d = U ++ d :: c :: V := by
  induction U with
  | nil => rfl
  | cons u U ih => simp only [List.cons_append, List.length_cons, List.set_cons_succ, ih]
theorem stageI_swap (P S R : List It) (x : It) (q : Nat) (hq : q + 1 ≤ S.length) : ((stageI P S R x (q + 1)).set (P.length + q + 1) S[q]).set (P.length + q) x = stageI P S R x q := by
  have e : (P ++ S.take q).length = P.length + q := by rw [List.length_append, List.length_take]; omega
  obtain ⟨h1, h2⟩ := stageI_split P S R x q hq
  rw [h1, h2, ← e, set_two]
theorem seg_start (L : List It) (a k : Nat) (ha : a + 1 ≤ k) (hk : k < L.length) :
    sortSeg L a k = stageI (L.take a) (isort ((L.drop a).take (k - a))) (L.drop (k + 1)) L[k] (isort ((L.drop a).take (k - a))).length := by
  rw [stageI, List.take_of_length_le (Nat.le_refl _), List.drop_of_length_le (Nat.le_refl _), sortSeg, List.drop_eq_getElem_cons hk]; simp
theorem seg_end (L : List It) (a k : Nat) (ha : a + 1 ≤ k) (hk : k < L.length) :
    sortSeg L a (k + 1) = stageI (L.take a) (isort ((L.drop a).take (k - a))) (L.drop (k + 1)) L[k] (qpos (isort ((L.drop a).take (k - a))) L[k]) := by
  have e : (L.drop a).take (k + 1 - a) = (L.drop a).take (k - a) ++ [L[k]] := by
    rw [show k + 1 - a = (k - a) + 1 by omega, List.take_succ_eq_append_getElem (by rw [List.length_drop]; omega), List.getElem_drop]
    congr 2
    congr 1; omega
  rw [sortSeg, e, isort_snoc, insQ, stageI]; simp

/-! ### comparing -/
set_option maxHeartbeats 400000 in
theorem fresh1_any (x y : It) (w : World) :
    Calls Try.prog 85 #[.agg (itA x), .agg (itA y)] w fun e w' => e = .returned (.int .i64 (cmpI x.2.2.1 y.2.2.1)) ∧ New w w' := by
  by_cases h1 : x.2.2.1 < y.2.2.1
  · go_enter Try.func85, Try.ntmps85
    go_wp2
    go_ret
    exact ⟨by simp only [cmpI, if_pos h1]; rfl, ((New.rfl' w).alloc' _).alloc' _⟩
  · by_cases h2 : y.2.2.1 < x.2.2.1
    · go_enter Try.func85, Try.ntmps85
      go_wp2
      go_ret
      exact ⟨by rw [cmpI, if_neg (by omega), if_pos (by omega)]; rfl, ((New.rfl' w).alloc' _).alloc' _⟩
    · go_enter Try.func85, Try.ntmps85
      go_wp2
      go_ret
      exact ⟨by rw [cmpI, if_neg (by omega), if_neg (by omega)]; rfl, ((New.rfl' w).alloc' _).alloc' _⟩
theorem own_it {w : World} {base n c g : Nat} {m : List It} (h : KI.Own w base (.slice (some ⟨g, 0, none⟩) n c) m) :
    ∀ w', New w w' → ∀ k (hk : k < m.length) j, j < 11 → w'.cell? ⟨g, k * 11 + j, none⟩ = (itA m[k])[j]? := by
  obtain ⟨hr, _⟩ := Kind.Rd.of_own h
  intro w' hw k hk j hj
  obtain ⟨b, o, e, hb, hc⟩ := hr.2 (by have := hr.1; omega)
  injection e with e
  injection e with e1 e2
  subst e1; subst e2
  have c0 := hc k hk j hj
  rw [KI_sz, KI_enc, Nat.zero_add] at c0
  exact (hw.cell (p := ⟨g, _, none⟩) hb).trans c0
end Go.Proofs.Ytkgebhmlogddcaa
/- Contracts: insertion sort of a part of a row of items. -/
namespace Go.Proofs.Ytkgebhmlogddcaa
open Go.RowKit
set_option linter.unusedSimpArgs false
attribute [local go_sem] rowAt_alloc_at rowAt_alloc_past rowOk_alloc_at rowOk_alloc_past rowAt_drew rowOk_drew setRow_alloc_at setRow_alloc_past rowAt_setRow rowAt_setRow_far rowOk_setRow cell_rowOk frozen_rowOk setCell_rowOk setRow_setRow con_fold con_get con_size con_set set_all none8_cells equalIn_con storeCells_con
attribute [local go_sem] it_size it_0 it_1 it_2 it_3 it_4 it_5 it_6 it_7 it_8 it_9 it_10 it_set0 it_set1 it_set2 it_fold it_zero it_eta it_fill run_storeCells_it
attribute [local go_sem] run_storeCells_it

theorem run_storeCells_itk (w : World) (g p : Nat) (x : It) (h : rowOk w g = true) (hs : p * 11 + 11 ≤ (rowAt w g).size) :
    (storeCells ⟨g, p * 11, none⟩ (itA x).toList).run Try.prog w = .ok () (w.setRow g (KI.putK (rowAt w g) p x)) := Kind.run_storeCells_k KI w g p x h hs
theorem call_fresh1 (args : Array Value) (w : World) : (callFunc 85 args).run Try.prog w = .ok (.enter 85 args) w := call_go Try.func85 (by kernel_rfl) (by kernel_rfl) args w
set_option maxHeartbeats 3200000 in
set_option maxRecDepth 100000 in
theorem inssort_any (L : List It) (a b g c : Nat) (w : World) (base : Nat) (h : KI.Own w base (.slice (some ⟨g, 0, none⟩) L.length c) L) (hab : a ≤ b) (hb : b ≤ L.length) (hn : L.length ≤ 1000) :
    Calls Try.prog 100 #[.slice (some ⟨g, 0, none⟩) L.length c, .int .i64 (a : Nat), .int .i64 (b : Nat), .func (.func 85) #[] #[]] w fun e w' =>
      e = .returned (.tuple #[]) ∧ KI.Own w' base (.slice (some ⟨g, 0, none⟩) L.length c) (sortSeg L a b) ∧ w.grownBy w' (some g) := by
  have iw0 : IntKind.i64.wrap ((a : Int) + 1) = (a : Int) + 1 := by rw [IntKind.wrap_i64]; omega
  go_enter Try.func100, Try.ntmps100
  go_wp2_with fail
  go_loopw [8] (fun i wr => ∃ k : Nat, a + 1 ≤ k ∧ (k ≤ b ∨ k = a + 1) ∧ i = .int .i64 k ∧ w.grownBy wr (some g) ∧ KI.Own wr base (.slice (some ⟨g, 0, none⟩) L.length c) (sortSeg L a k)) (fun i _ => b - (intOf i).toNat)
  case atStart => exact ⟨a + 1, by omega, .inr rfl, by go_num, World.grownBy.refl _ _, by rw [sortSeg_start]; exact h⟩
  case round =>
    obtain ⟨k, hak, hkb, rfl, hr, hM⟩ := hrel
    by_cases hlt : k < b
    · rw [seg_start L a k hak (by omega)] at hM
      have hse := Lib.hid (seg_end L a k hak (by omega))
      have hsl : (isort ((L.drop a).take (k - a))).length = k - a := by rw [isort_len, List.length_take, List.length_drop]; omega
      have hso := Lib.hid (isort_sorted ((L.drop a).take (k - a)))
      have hkL : k < L.length := by omega
      have hP : (L.take a).length = a := by rw [List.length_take]; omega
      have hR : (L.drop (k + 1)).length = L.length - (k + 1) := List.length_drop
      generalize isort ((L.drop a).take (k - a)) = S at *
      generalize L.take a = P at *
      generalize L.drop (k + 1) = R at *
      generalize L[k] = x at *
      have hqle := qpos_le S x
      have hqi := fun q hq => Lib.hid (qpos_iff x hso.out q hq)
      generalize qpos S x = p at *
      go_wp2_with fail
      go_loopw [9] (fun j wr2 => ∃ q : Nat, q ≤ S.length ∧ p ≤ q ∧ j = .int .i64 ((a + q : Nat) : Int) ∧ w.grownBy wr2 (some g) ∧ KI.Own wr2 base (.slice (some ⟨g, 0, none⟩) L.length c) (stageI P S R x q)) (fun j _ => (intOf j).toNat)
      case atStart => exact ⟨S.length, Nat.le_refl _, hqle, by rw [hsl, show a + (k - a) = k by omega], hr, hM⟩
      case round =>
        obtain ⟨q, hq, hpq, rfl, hr2, hM2⟩ := hrel
        cases q with
        | zero =>
          obtain rfl : p = 0 := by omega
          go_wp2_with fail
          go_quiet (fail)
          go_wp2_with fail
          go_roundw
          case rel => exact ⟨k + 1, by omega, .inl (by omega), by go_num, ⟨hr2.os, hr2.tape, hr2.output, hr2.size, hr2.block⟩, by rw [hse.out]; exact hM2⟩
          case measure => simp [intOf]; omega
        | succ q =>
          have hi := (hqi q (by omega)).out
          obtain ⟨M, hMM, e4, e1, e2, e3, hM2⟩ : ∃ M : List It, stageI P S R x (q + 1) = M ∧ M.length = L.length ∧ (∀ h : P.length + (q + 1) < M.length, M[P.length + (q + 1)] = x) ∧ (∀ h : P.length + q < M.length, M[P.length + q] = S[q]) ∧ Hid ((M.set (P.length + q + 1) S[q]).set (P.length + q) x = stageI P S R x q) ∧ KI.Own wr base (.slice (some ⟨g, 0, none⟩) L.length c) M :=
            ⟨_, rfl, by rw [stageI_len P S R x (q + 1) hq]; omega, stageI_at P S R x (q + 1) hq, stageI_below P S R x q hq, stageI_swap P S R x q hq, hM2⟩
          have hit := own_it hM2
          clear hMM
          obtain ⟨t, ht⟩ : ∃ t, a + q = t := ⟨_, rfl⟩
          simp only [hP] at e1 e2 e3
          have et : ((a + (q + 1) : Nat) : Int) = (t : Int) + 1 := by omega
          rw [et]
          have ht1 : t + 1 < M.length := by omega
          have hML := e4
          have hx1 : M[t + 1] = x := by have e5 : t + 1 = a + (q + 1) := by omega
                                        simp only [e5]; exact e1 (by omega)
          have hx0 : M[t] = S[q] := by simp only [← ht]; exact e2 (by omega)
          have hc1 : ∀ w', New wr w' → ∀ j, j < 11 → w'.cell? ⟨g, (t + 1) * 11 + j, none⟩ = (itA x)[j]? := fun w' hw j hj => by rw [← hx1]; exact hit w' hw (t + 1) ht1 j hj
          have hc0 : ∀ w', New wr w' → ∀ j, j < 11 → w'.cell? ⟨g, t * 11 + j, none⟩ = (itA S[q])[j]? := fun w' hw j hj => by rw [← hx0]; exact hit w' hw t (by omega) j hj
          have hc10 : ∀ w', New wr w' → w'.cell? ⟨g, (t + 1) * 11, none⟩ = (itA x)[0]? := fun w' hw => hc1 w' hw 0 (by decide)
          have hc00 : ∀ w', New wr w' → w'.cell? ⟨g, t * 11, none⟩ = (itA S[q])[0]? := fun w' hw => hc0 w' hw 0 (by decide)
          have iw1 : IntKind.i64.wrap ((t : Int) + 1 - 1) = (t : Int) := by rw [IntKind.wrap_i64]; omega
          have iw2 : IntKind.i64.wrap (t : Int) = (t : Int) := by rw [IntKind.wrap_i64]; omega
          have i1 : (t : Int) + 1 < (L.length : Int) := by omega
          have i2 : (t : Int) < (L.length : Int) := by omega
          have i3 : (a : Int) < (t : Int) + 1 := by omega
          have i4 : (0 : Int) ≤ (t : Int) + 1 := by omega
          have hrr := New.rfl' wr
          clear hit
          go_wp2_with fail
          go_region_held3 (fun w' => New wr w') (first | exact New.drew' hrr | exact hrr | exact hr5)
            (first
            | (go_at_call 85; refine (fresh1_any x S[q] _).mono ?_; rintro e w5 ⟨rfl, hb⟩; have hr5 := (New.drew' hrr).call hb; clear hb))
          have hM5 := hM2.new hr5
          have hg5 : w.grownBy w5 (some g) := hr2.trans ⟨hr5.os, hr5.tape, hr5.output, hr5.size, fun k hk _ => hr5.block k hk⟩
          have hz5 := hr5.size
          by_cases hcq : p ≤ q
          · have hng : cmpI x.2.2.1 S[q].2.2.1 < 0 := by rw [cmpI, if_pos (hi.2 hcq)]; decide
            obtain ⟨g', eg, -, hlc5, -, hok5, hsz5⟩ := hM5.spotK (by omega)
            injection eg with eg
            injection eg with eg _ _
            subst eg
            rw [KI_sz] at hsz5
            have hsa : (t + 1) * 11 + 11 ≤ (rowAt w5 g).size := by omega
            have hsb : t * 11 + 11 ≤ (rowAt w5 g).size := by omega
            have hsc : t * 11 + 11 ≤ (KI.putK (rowAt w5 g) (t + 1) S[q]).size := by rw [Kind.putK_size _ _ _ _ hsa]; exact hsb
            have hr5d := New.drew' hr5
            clear hsz5
            have hst1 : (storeCells ⟨g, (t + 1) * 11, none⟩ (itA S[q]).toList).run Try.prog w5.drew = .ok () (w5.drew.setRow g (KI.putK (rowAt w5 g) (t + 1) S[q])) := run_storeCells_itk w5.drew g (t + 1) S[q] hok5 hsa
            have hM6 : KI.Own (w5.drew.setRow g (KI.putK (rowAt w5 g) (t + 1) S[q])) base (.slice (some ⟨g, 0, none⟩) L.length c) (M.set (t + 1) S[q]) := Kind.Own.putK (show KI.Own w5.drew base _ M from hM5) S[q] ht1
            have hok6 : rowOk (w5.drew.setRow g (KI.putK (rowAt w5 g) (t + 1) S[q])) g = true := by rw [rowOk_setRow]; exact hok5
            have hra6 : rowAt (w5.drew.setRow g (KI.putK (rowAt w5 g) (t + 1) S[q])) g = KI.putK (rowAt w5 g) (t + 1) S[q] := rowAt_setRow w5.drew g _ hok5
            obtain ⟨W6, hW6⟩ : ∃ W6, w5.drew.setRow g (KI.putK (rowAt w5 g) (t + 1) S[q]) = W6 := ⟨_, rfl⟩
            rw [hW6] at hst1 hM6 hok6 hra6
            have hst2 : (storeCells ⟨g, t * 11, none⟩ (itA x).toList).run Try.prog W6 = .ok () (W6.setRow g (KI.putK (rowAt W6 g) t x)) := run_storeCells_itk W6 g t x hok6 (by rw [hra6]; exact hsc)
            have hM7 : KI.Own (W6.setRow g (KI.putK (rowAt W6 g) t x)) base (.slice (some ⟨g, 0, none⟩) L.length c) ((M.set (t + 1) S[q]).set t x) := Kind.Own.putK hM6 x (by rw [List.length_set]; omega)
            have hg7 : w.grownBy (W6.setRow g (KI.putK (rowAt W6 g) t x)) (some g) := by
              rw [← hW6]
              exact ((⟨hg5.os, hg5.tape, hg5.output, hg5.size, hg5.block⟩ : w.grownBy w5.drew (some g)).trans (grown_setRow w5.drew g _)).trans (grown_setRow _ g _)
            obtain ⟨W7, hW7⟩ : ∃ W7, W6.setRow g (KI.putK (rowAt W6 g) t x) = W7 := ⟨_, rfl⟩
            rw [hW7] at hst2 hM7 hg7
            clear hok6 hra6 hW6 hW7 hsa hsb hsc
            go_wp2_with fail
            go_region
            have e6 := e3.out
            rw [ht] at e6
            rw [e6] at hM7
            go_wp2_with fail
            go_roundw
            case rel => exact ⟨q, by omega, hcq, by rw [ht], hg7, hM7⟩
            case measure => simp [intOf]
          · have hng : ¬ cmpI x.2.2.1 S[q].2.2.1 < 0 := by
              have : ¬ x.2.2.1 < S[q].2.2.1 := fun h => hcq (hi.1 h)
              unfold cmpI; rw [if_neg this]; split <;> decide
            obtain rfl : p = q + 1 := by omega
            go_wp2_with fail
            go_roundw
            case rel => exact ⟨k + 1, by omega, .inl (by omega), by go_num, hg5, by rw [hse.out]; exact (Kind.Own.new (by assumption) hr5)⟩
            case measure => simp [intOf]; omega
    · go_wp2_with fail
      go_end0
      have hres : sortSeg L a k = sortSeg L a b := by
        rcases hkb with h | h
        · rw [show k = b by omega]
        · subst h
          rw [sortSeg_start]
          rcases Nat.lt_or_ge a b with h2 | h2
          · rw [show b = a + 1 by omega, sortSeg_start]
          · rw [show b = a by omega, sortSeg_same]
      rw [hres] at hM
      exact ⟨rfl, hM, hr⟩
end Go.Proofs.Ytkgebhmlogddcaa
/- An iterator over items: slices.Values. -/
namespace Go.Proofs.Ytkgebhmlogddcaa
open Go.RowKit Go.Shelf
set_option linter.unusedSimpArgs false
attribute [local go_sem] Oper.semAt_some
attribute [local go_sem] rowAt_alloc_at rowAt_alloc_past rowOk_alloc_at rowOk_alloc_past rowAt_drew rowOk_drew setRow_alloc_at setRow_alloc_past rowAt_setRow rowAt_setRow_far rowOk_setRow cell_rowOk frozen_rowOk setCell_rowOk setRow_setRow con_fold con_get con_size con_set set_all none8_cells equalIn_con storeCells_con
attribute [local go_sem] it_size it_0 it_1 it_2 it_3 it_4 it_5 it_6 it_7 it_8 it_9 it_10 it_set0 it_set1 it_set2 it_fold it_zero it_eta it_fill run_storeCells_it

set_option maxRecDepth 100000 in
set_option maxHeartbeats 2000000 in
theorem ivals_in (F : Fence) (n : Nat) (hf : F.fn 95) (hro : F.round = none) (hn : 1 ≤ n) (l Bs n₀ : Nat) (A : Option Addr) (c : Nat) (zs : List It) (hlen : zs.length ≤ 1000) (J Jx : List It → World → Prop) (W w0 : World) (hJ : AbidesFrom W.heap.size J)
    (hY : ∀ pre x W1, J pre W1 → pre.length < zs.length → YieldAt F (n - 1) Try.prog l #[.agg (itA x)] W1 fun e W' =>
      (e = .returned (.bool true) ∧ J (pre ++ [x]) W' ∧ Below n₀ W1 W') ∨ (e = .returned (.bool false) ∧ Jx (pre ++ [x]) W'))
    (hBs : rowAt W Bs = #[.slice A zs.length c]) (hok : rowOk W Bs = true) (hz : KI.Rd w0 A zs.length zs) (hn0 : w0.heap.size ≤ n₀) (h0W : New w0 W) (hnW : n₀ ≤ W.heap.size) (h0 : J [] W) :
    CallsIn F n Try.prog 95 #[.func (.yield l) #[] #[], .pointer (some ⟨Bs, 0, none⟩)] W fun e W' => (∃ v, e = .returned v) ∧
      ((∃ ys, ys = zs ∧ J ys W') ∨ (∃ pre, pre <+: zs ∧ Jx pre W')) := by
  have hBlt := rowOk_lt W hok
  refine callsIn_of_wp Try.func95 rfl hf ?_ hro
  simp only [Try.ntmps95, List.size_toArray, List.length_cons, List.length_nil, Nat.reduceAdd, Nat.reduceSub, Array.replicate_succ, Array.replicate_zero, List.push_toArray, List.append_toArray, List.nil_append, List.cons_append]
  gi_wp2
  gi_loopw [7] (fun i wr => ∃ k : Nat, k ≤ zs.length ∧ i = .int .i64 k ∧ J (zs.take k) wr ∧ Below n₀ W wr ∧ AbidesFrom W.heap.size J) (fun i _ => zs.length - (intOf i).toNat)
  case atStart => exact ⟨0, Nat.zero_le _, rfl, h0, Below.refl _ _, hJ⟩
  case round =>
    obtain ⟨k, hk, rfl, hJs, hnx, hJ⟩ := hrel
    have hnw : New w0 wr := h0W.trans (hnx.mono hn0)
    by_cases hlt : k < zs.length
    · have hz2 := hz
      obtain ⟨bhz, ohz, rfl, hbhz, hchz⟩ := hz.2 (by omega)
      have hrhz : ∀ w', New w0 w' → ∀ k (hk : k < zs.length), w'.cell? ⟨bhz, ohz + k * 11, none⟩ = (itA zs[k])[0]? := fun w' hw k hk => (hw.cell (p := ⟨bhz, _, none⟩) hbhz).trans (hchz k hk 0 (by decide))
      have hshz : ∀ w', New w0 w' → ∀ k (hk : k < zs.length) j, j < 11 → w'.cell? ⟨bhz, ohz + k * 11 + j, none⟩ = (itA zs[k])[j]? := fun w' hw k hk j hj => (hw.cell (p := ⟨bhz, _, none⟩) hbhz).trans (hchz k hk j hj)
      clear hchz
      have hJ' : J (zs.take k) (wr.alloc (Obj.cells (itA zs[k]) 28)) := hJ _ _ _ none hJs (World.grownBy_alloc _ _ none) (fun r e => by cases e)
      obtain ⟨fn, tmps, assign, body, hy, hR⟩ := hY (zs.take k) zs[k] _ hJ' (by rw [List.length_take]; omega)
      gi_wp2
      refine hR.mono ?_
      rintro e W3 (⟨rfl, hJ3, hk3⟩ | ⟨rfl, hJx3⟩)
      · gi_wp2
        go_roundw
        case rel => exact ⟨k + 1, by omega, by simp, by rw [List.take_succ_eq_append_getElem hlt]; exact hJ3, (hnx.alloc (Nat.le_trans hnW hnx.size) _).trans hk3, hJ⟩
        case measure => simp [intOf]; omega
      · gi_wp2
        refine bodyPost_ret (results_none rfl _ _ _) rfl ?_
        exact ⟨⟨_, rfl⟩, .inr ⟨_, by rw [← List.take_succ_eq_append_getElem hlt]; exact List.take_prefix _ _, hJx3⟩⟩
    · gi_wp2
      go_end0
      rw [List.take_of_length_le (by omega)] at hJs
      exact ⟨⟨_, rfl⟩, .inl ⟨_, rfl, hJs⟩⟩
end Go.Proofs.Ytkgebhmlogddcaa
/- Contracts of the layer ghost: merging contacts by masks, in and out of a mask. -/
namespace Go.Proofs.Ytkgebhmlogddcaa
open Go.RowKit
set_option linter.unusedSimpArgs false
attribute [local go_sem] rowAt_alloc_at rowAt_alloc_past rowOk_alloc_at rowOk_alloc_past rowAt_drew rowOk_drew setRow_alloc_at setRow_alloc_past rowAt_setRow rowAt_setRow_far rowOk_setRow cell_rowOk frozen_rowOk setCell_rowOk setRow_setRow con_fold con_get con_size con_set set_all none8_cells equalIn_con storeCells_con

def bit (m : Int) (p : Nat) : Bool := m.toNat.testBit p

theorem byte_bit : ∀ m : Nat, m < 256 → ∀ p : Nat, p < 8 → (bits BinOp.and IntKind.u8 (m : Int) (2 ^ p % 256) != 0) = m.testBit p := by
  decide +kernel

set_option maxHeartbeats 400000 in
theorem in_any (m : Int) (p : Nat) (w : World) (h8 : p < 8) (m0 : 0 ≤ m) (m1 : m < 256) :
    Calls Try.prog 73 #[.int .u8 m, .int .i64 (p : Int)] w fun e w' => e = .returned (.bool (bit m p)) ∧ w = w' := by
  have hb := Lib.hid (byte_bit m.toNat (by omega) p h8)
  go_enter Try.func73, Try.ntmps73
  go_wp2
  go_ret
  have h1 := hb.out
  have e1 : ((m.toNat : Nat) : Int) = m := by omega
  rw [e1] at h1
  exact ⟨by simp [bit, ← h1], rfl⟩

def mg1 (f g : Con) (gi : Int) (li : Bool) (su : Int) (p : Nat) (h : p < 8) : ByteArray :=
  if bit gi p then g[p] else if li && bit su p then ⟨#[]⟩ else f[p]
/-- a contact that is changed -/
def mg (f g : Con) (gi : Int) (li : Bool) (su : Int) : Con := Vector.ofFn fun p => mg1 f g gi li su p.1 p.2
/-- behind k rounds -/
def stage (k : Nat) (h f : Con) : Con := Vector.ofFn fun p => if p.1 < k then h[p.1] else f[p.1]
theorem stage_zero (h f : Con) : stage 0 h f = f := by apply Vector.ext; intro i hi; simp [stage]
theorem stage_succ (h f : Con) (k : Nat) (hk : k < 8) : stage (k + 1) h f = (stage k h f).set k h[k] := by
  apply Vector.ext; intro i hi
  by_cases e : k = i
  · subst e; simp [stage]
  · simp only [stage, Vector.getElem_ofFn, Vector.getElem_set, e, if_false]
    by_cases h1 : i < k
    · rw [if_pos h1, if_pos (by omega)]
    · rw [if_neg h1, if_neg (by omega)]
theorem stage_eight (h f : Con) : stage 8 h f = h := by apply Vector.ext; intro i hi; simp [stage]
theorem stage_get (h f : Con) (k : Nat) (hk : k < 8) : (stage k h f)[k] = f[k] := by simp [stage]
theorem set_same (c : Con) (k : Nat) (hk : k < 8) (x : ByteArray) (h : c[k] = x) : c.set k x = c := by
  apply Vector.ext; intro i hi; simp only [Vector.getElem_set]; split
  · rename_i e; subst e; exact h.symm
  · rfl
theorem mg_get (f g : Con) (gi : Int) (li : Bool) (su : Int) (k : Nat) (hk : k < 8) : (mg f g gi li su)[k] = mg1 f g gi li su k hk := by simp [mg]

set_option maxHeartbeats 800000 in
theorem merge_any (f g : Con) (gi su : Int) (li : Bool) (w : World) (g0 : 0 ≤ gi) (g1 : gi < 256) (s0 : 0 ≤ su) (s1 : su < 256) :
    Calls Try.prog 58 #[.agg (con f), .int .u8 gi, .agg (con g), .bool li, .int .u8 su] w fun e w' => e = .returned (.agg (con (mg f g gi li su))) ∧ Below w.heap.size w w' := by
  cases li
  all_goals
    generalize hM0 : mg f g gi _ su = M
    have HM := Lib.hid hM0
    clear hM0
    go_enter Try.func58, Try.ntmps58
    go_wp2
    go_loopw [12] (fun i wr => ∃ k : Nat, k ≤ 8 ∧ i = .int .i64 k ∧ wr = ((w.alloc (Obj.cells (con (stage k M f)) 26)).alloc (Obj.cells (con g) 26)).alloc (Obj.cells (con none8) 26)) (fun i _ => 8 - (intOf i).toNat)
    case atStart => exact ⟨0, by omega, rfl, by rw [stage_zero]⟩
    case round =>
      obtain ⟨k, hk, rfl, rfl⟩ := hrel
      by_cases hlt : k < 8
      · have HN := Lib.hid (stage_succ M f k hlt)
        have HC := Lib.hid (stage_get M f k hlt)
        have HG := Lib.hid (show M[k] = _ from by rw [← HM.out, mg_get _ _ _ _ _ _ hlt, mg1])
        generalize hS0 : stage k M f = S at *
        have HS := Lib.hid hS0
        clear hS0
        rcases Bool.eq_false_or_eq_true (bit gi k) with hb | hb <;> rcases Bool.eq_false_or_eq_true (bit su k) with hs | hs
        all_goals
          go_wp2_with (first | (go_at_call 73; refine (in_any _ _ _ (by omega) (by omega) (by omega)).mono ?_; rintro e w' ⟨rfl, rfl⟩))
          go_roundw
          case rel => exact ⟨k + 1, by omega, by go_num, by rw [HN.out, HG.out, hb, hs]; first | rfl | (simp only [Bool.false_eq_true, if_false, Bool.and_false, Bool.false_and]; rw [set_same _ _ _ _ HC.out])⟩
          case measure => simp [intOf]; omega
      · rw [show stage k M f = M from by obtain rfl : k = 8 := by omega
                                         exact stage_eight _ _]
        go_wp2
        exact bodyPost_ret (results_con rfl _ _ (w.heap.size + 1 + 1) M rfl (by simp [go_sem]) (by simp [go_sem])) rfl
          ⟨rfl, (((Below.refl _ _).alloc (Nat.le_refl _) _).alloc (by simp) _).alloc (by simp; omega) _⟩


theorem byte_shr (m : Int) (k : Nat) (m0 : 0 ≤ m) (m1 : m < 256) (hk : k < 8) : (bits BinOp.and IntKind.u8 (m / 2 ^ k) 1 == 1) = bit m k := by
  have h : ∀ m : Nat, m < 256 → ∀ k : Nat, k < 8 → (bits BinOp.and IntKind.u8 ((m : Int) / 2 ^ k) 1 == 1) = m.testBit k := by decide +kernel
  have h1 := h m.toNat (by omega) k hk
  rw [show ((m.toNat : Nat) : Int) = m from by omega] at h1
  exact h1


set_option maxHeartbeats 400000 in
theorem refin_any (m : Int) (p : Nat) (w : World) (h8 : p < 8) (m0 : 0 ≤ m) (m1 : m < 256) :
    Calls Try.prog 91 #[.int .u8 m, .int .i64 (p : Int)] w fun e w' => e = .returned (.bool (bit m p)) ∧ w = w' := by
  have hb := byte_shr m p m0 m1 h8
  go_enter Try.func91, Try.ntmps91
  go_wp2
  go_ret
  exact ⟨rfl, rfl⟩


set_option maxHeartbeats 800000 in
theorem refonly_any (f : Con) (gi : Int) (w : World) (g0 : 0 ≤ gi) (g1 : gi < 256) :
    Calls Try.prog 75 #[.agg (con f), .int .u8 gi] w fun e w' => e = .returned (.agg (con (mg none8 f gi false 0))) ∧ Below w.heap.size w w' := by
  generalize hM0 : mg none8 f gi false 0 = M
  have HM := Lib.hid hM0
  clear hM0
  go_enter Try.func75, Try.ntmps75
  go_wp2
  go_loopw [6] (fun i wr => ∃ k : Nat, k ≤ 8 ∧ i = .int .i64 k ∧ wr = ((w.alloc (Obj.cells (con f) 26)).alloc (Obj.cells (con none8) 26)).alloc (Obj.cells (con (stage k M none8)) 26)) (fun i _ => 8 - (intOf i).toNat)
  case atStart => exact ⟨0, by omega, rfl, by rw [stage_zero]⟩
  case round =>
    obtain ⟨k, hk, rfl, rfl⟩ := hrel
    by_cases hlt : k < 8
    · have HN := Lib.hid (stage_succ M none8 k hlt)
      have HC := Lib.hid (stage_get M none8 k hlt)
      have HG := Lib.hid (show M[k] = _ from by rw [← HM.out, mg_get _ _ _ _ _ _ hlt, mg1])
      generalize hS0 : stage k M none8 = S at *
      have HS := Lib.hid hS0
      clear hS0
      rcases Bool.eq_false_or_eq_true (bit gi k) with hb | hb
      all_goals
        go_wp2_with (first | (go_at_call 91; refine (refin_any _ _ _ (by omega) (by omega) (by omega)).mono ?_; rintro e w' ⟨rfl, rfl⟩))
        go_roundw
        case rel => exact ⟨k + 1, by omega, by go_num, by rw [HN.out, HG.out, hb]; first | rfl | (simp only [Bool.false_eq_true, if_false, if_true, Bool.and_false, Bool.false_and, Bool.and_true, Bool.true_and]; rw [set_same _ _ _ _ HC.out])⟩
        case measure => simp [intOf]; omega
    · rw [show stage k M none8 = M from by obtain rfl : k = 8 := by omega
                                           exact stage_eight _ _]
      go_wp2
      exact bodyPost_ret (results_con rfl _ _ (w.heap.size + 1) M rfl (by simp [go_sem]) (by simp [go_sem])) rfl
        ⟨rfl, ((New.rfl' w).alloc' _).alloc' _ |>.alloc' _⟩

/-- the properties of a mask are alike just if they are one by one -/
theorem only_eq_iff (a b : Con) (m : Int) : (mg none8 a m false 0 = mg none8 b m false 0) ↔ ∀ p, (h : p < 8) → bit m p = true → a[p] = b[p] := by
  constructor
  · intro h p hp hb
    have h1 := mg_get none8 a m false 0 p hp
    rw [h, mg_get none8 b m false 0 p hp, mg1, mg1, if_pos hb, if_pos hb] at h1
    exact h1.symm
  · intro h
    apply Vector.ext
    intro i hi
    rw [mg_get _ _ _ _ _ i hi, mg_get _ _ _ _ _ i hi, mg1, mg1]
    by_cases hb : bit m i = true
    · rw [if_pos hb, if_pos hb, h i hi hb]
    · rw [if_neg hb, if_neg hb]

end Go.Proofs.Ytkgebhmlogddcaa
/- Contracts of the reference of the layer view: what is pending. -/
namespace Go.Proofs.Ytkgebhmlogddcaa
open Go.RowKit
set_option linter.unusedSimpArgs false
attribute [local go_sem] rowAt_alloc_at rowAt_alloc_past rowOk_alloc_at rowOk_alloc_past rowAt_drew rowOk_drew setRow_alloc_at setRow_alloc_past rowAt_setRow rowAt_setRow_far rowOk_setRow cell_rowOk frozen_rowOk setCell_rowOk setRow_setRow con_fold con_get con_size con_set set_all none8_cells equalIn_con storeCells_con
attribute [local go_sem] it_size it_0 it_1 it_2 it_3 it_4 it_5 it_6 it_7 it_8 it_9 it_10 it_set0 it_set1 it_set2 it_fold it_zero it_eta it_fill run_storeCells_it
attribute [local go_sem] sn_size sn_0 sn_1 sn_set0 sn_set1 sn_fold sn_eta sn_fill run_storeCells_sn eqg_sn eqg_it
attribute [local go_sem high] equalIn_sn equalIn_it
attribute [local go_sem] op_size op_0 op_1 op_2 op_3 op_4 op_5 op_6 op_7 op_8 op_9 op_10 op_11 op_con op_fold op_fold0 op_fillz op_set0 op_set1 op_set2 op_set3 op_ne op_fillC op_eta run_storeCells_op it_extr

def delO (x : Sn) : Opr := (3, 0, x.1, 0, none8)
def putO (v : List Sn) (gv : Int) (x : It) : Opr := (if (findS v x.1).isSome then 2 else 1, 0, x.1, gv, mg none8 x.2.2.2 gv false 0)
def goneP (l : List It) (x : Sn) : Bool := !(findI l x.1).isSome
/-- what is pending -/
def pendO (v : List Sn) (l : List It) (gv : Int) : List Opr :=
  if risS 0 v = true ∧ mayI l = true then (v.filter (goneP l)).map delO ++ (rise v l).map (putO v gv) else []
theorem map_filter_step {α β : Type} (f : α → β) (p : α → Bool) (l : List α) (k : Nat) (hk : k < l.length) : ((l.take (k + 1)).filter p).map f = ((l.take k).filter p).map f ++ (if p l[k] then [f l[k]] else []) := by
  rw [filter_step p l k hk, List.map_append]
  by_cases h : p l[k] = true <;> simp [h]
theorem map_step {α β : Type} (f : α → β) (l : List α) (k : Nat) (hk : k < l.length) : (l.take (k + 1)).map f = (l.take k).map f ++ [f l[k]] := by
  rw [List.take_succ_eq_append_getElem hk, List.map_append]; rfl

set_option maxHeartbeats 3200000 in
set_option maxRecDepth 100000 in
theorem rpend_ok (B : Option Addr) (m d : Nat) (v : List Sn) (A : Option Addr) (n c : Nat) (l : List It) (gv : Int) (w : World) (hv : KS.Rd w B m v) (hl : KI.Rd w A n l) (hm : m ≤ 1000) (hn : n ≤ 1000) (hPv : PosS v) (hPl : PosI l) (g0 : 0 ≤ gv) (g1 : gv < 256)
    (hmv : risS 0 v = true) (hml : mayI l = true) :
    Calls Try.prog 59 #[.slice B m d, .slice A n c, .int .u8 gv] w fun e w' => ∃ u, e = .returned u ∧ KO.Own w' w.heap.size u ((v.filter (goneP l)).map delO ++ (rise v l).map (putO v gv)) ∧ New w w' := by
  obtain rfl : v.length = m := hv.1
  obtain rfl : l.length = n := hl.1
  have hA1 := rvmay_any B v.length d v
  rw [hmv] at hA1
  have HA := Lib.hid hA1
  have hB1 := refmay_any A l.length c l
  rw [hml] at hB1
  have HB := Lib.hid hB1
  clear hA1 hB1
  have hv0 := hv
  have hl0 := hl
  go_enter Try.func59, Try.ntmps59
  have hwA := fun w' (h : New w w') n hn => rowAt_below h n hn
  have hwO := fun w' (h : New w w') n hn => rowOk_below h n hn
  have hwS := fun w' (h : New w w') n (hn : n < w.heap.size) => eq_true (Nat.lt_of_lt_of_le hn h.size)
  go_wp2_with (first
    | (go_at_call 29; refine (HA.out _ hv (by omega) hPv).mono ?_; rintro e w1 ⟨rfl, hb1⟩)
    | (go_at_call 25; refine (HB.out _ (hl.new hb1) (by omega) hPl).mono ?_; rintro e w2 ⟨rfl, hb⟩; have hb2 := New.call hb1 hb; clear hb))
  go_loopw [7, 8] (fun u i wr => ∃ k : Nat, k ≤ v.length ∧ i = .int .i64 k ∧ New w wr ∧ KO.Own wr w.heap.size u (((v.take k).filter (goneP l)).map delO)) (fun _ i _ => v.length - (intOf i).toNat)
  case atStart => exact ⟨0, by omega, rfl, hb2, Kind.Own.nil⟩
  case round =>
    obtain ⟨k, hk, rfl, hr, hu⟩ := hrel
    by_cases hlt : k < v.length
    · have hst := map_filter_step delO (goneP l) v k hlt
      have hlen : (((v.take k).filter (goneP l)).map delO).length ≤ k := by have := List.length_filter_le (goneP l) (v.take k); rw [List.length_map]; rw [List.length_take] at this; omega
      have hC1 := reffind_any A l.length c l v[k].1
      obtain ⟨bhv, ohv, rfl, hbhv, hchv⟩ := hv.2 (by omega)
      have hrhv : ∀ w', New w w' → ∀ k (hk : k < v.length), w'.cell? ⟨bhv, ohv + k * 2, none⟩ = (snA v[k])[0]? := fun w' hw k hk => (hw.cell (p := ⟨bhv, _, none⟩) hbhv).trans (hchv k hk 0 (by decide))
      have hshv : ∀ w', New w w' → ∀ k (hk : k < v.length) j, j < 2 → w'.cell? ⟨bhv, ohv + k * 2 + j, none⟩ = (snA v[k])[j]? := fun w' hw k hk j hj => (hw.cell (p := ⟨bhv, _, none⟩) hbhv).trans (hchv k hk j hj)
      clear hchv
      generalize ((v.take k).filter (goneP l)).map delO = L at *
      have hgp : goneP l v[k] = !(findI l v[k].1).isSome := rfl
      rw [hgp] at hst
      generalize (findI l v[k].1).isSome = it at *
      generalize (findI l v[k].1).getD itZ = xx at *
      have HC := Lib.hid hC1
      have hst2 := Lib.hid hst
      clear hgp hst hC1
      cases it
      · go_wp2_with (first
          | (go_at_call 24; refine (HC.out _ (hl0.new hr) (by omega) hPl).mono ?_; rintro e w3 ⟨rfl, hb⟩; have hr1 := (hr.call hb).alloc' (Obj.cells (itA xx) 28); have hu1 := (hu.new hb).alloc (Obj.cells (itA xx) 28))
          | (at_builtin; (refine Kind.wpList_append1 rfl _ _ rfl rfl (hu1.alloc _) (delO v[k]) (w3.heap.size + 1) rfl (by go_simp) (by go_simp; rfl) (by omega) KO_b (by have := hr1.size; simp only [World.size_alloc] at *; omega) ?_); intro v' w4 hv4 _ hg))
        go_roundw
        case rel => exact ⟨k + 1, by omega, by go_num, Kind.Own.grown (hr1.alloc' _) (hu1.alloc _) hg, by rw [hst2.out]; exact hv4⟩
        case measure => simp [intOf]; omega
      · go_wp2_with (first
          | (go_at_call 24; refine (HC.out _ (hl0.new hr) (by omega) hPl).mono ?_; rintro e w3 ⟨rfl, hb⟩; have hr1 := (hr.call hb).alloc' (Obj.cells (itA xx) 28); have hu1 := (hu.new hb).alloc (Obj.cells (itA xx) 28)))
        go_roundw
        case rel => exact ⟨k + 1, by omega, by go_num, hr1, by rw [hst2.out]; simpa using hu1⟩
        case measure => simp [intOf]; omega
    · have hu1 := hu
      rw [List.take_of_length_le (by omega)] at hu1
      have hlen : ((v.filter (goneP l)).map delO).length ≤ 1000 := by have := List.length_filter_le (goneP l) v; rw [List.length_map]; omega
      generalize hGq : (v.filter (goneP l)).map delO = G at *
      have HGq := Lib.hid hGq
      clear hGq
      clear hu
      have hrl := rise_len v l
      have hD1 := rising_any B v.length d v A l.length c l
      generalize hRq : rise v l = R at *
      have HRq := Lib.hid hRq
      clear hRq
      have hsep0 : ∀ g, u7.ownBlock = some g → g < wr.heap.size := fun g e => (World.ownsRow.lt hu1 g e).2
      go_wp2_with (first
        | (go_at_call 74; refine (hD1 _ (hv0.new hr) (hl0.new hr) (by omega) (by omega) hPv).mono ?_; rintro e w3 ⟨u3, rfl, hu3, hb⟩; have hz3 := hb.size; have hr3 := hr.call hb; have hG3 := hu1.new hb; obtain ⟨A3, c3, rfl, hc3, hR3⟩ := hu3.rd))
      generalize wr.heap.size = s0 at *
      go_loopw [7, 12] (fun u i wq => ∃ q : Nat, q ≤ R.length ∧ i = .int .i64 q ∧ New w wq ∧ KI.Own wq s0 (.slice A3 R.length c3) R ∧ w3.heap.size ≤ wq.heap.size ∧ (∀ g, u.ownBlock = some g → g < s0 ∨ w3.heap.size ≤ g) ∧ KO.Own wq w.heap.size u (G ++ (R.take q).map (putO v gv))) (fun _ i _ => R.length - (intOf i).toNat)
      case atStart => exact ⟨0, by omega, rfl, hr3, hu3, Nat.le_refl _, fun g e => .inl (hsep0 g e), by simpa using hG3⟩
      case round =>
        obtain ⟨q, hq, rfl, hrq, hRq3, hzq, hsep, huq⟩ := hrel
        by_cases hltq : q < R.length
        · have hst := map_step (putO v gv) R q hltq
          have hlenq : (G ++ (R.take q).map (putO v gv)).length ≤ 1000 + q := by simp only [List.length_append, List.length_map, List.length_take]; omega
          have hst1 := congrArg (fun z => G ++ z) hst
          simp only [← List.append_assoc] at hst1
          have hE1 := rvof_any B v.length d v R[q].1
          have hpp : putO v gv R[q] = (if (findS v R[q].1).isSome then 2 else 1, 0, R[q].1, gv, mg none8 R[q].2.2.2 gv false 0) := rfl
          obtain ⟨gR, eA, _, _, hgR0, hokR, _⟩ := hRq3.spotK (by omega)
          subst eA
          have hgR1 : gR < w3.heap.size := by
            obtain ⟨b, o, e, hlt, _⟩ := hR3.2 (by omega)
            injection e with e
            injection e with e
            subst e; exact hlt
          have hRd := (Kind.Rd.of_own hRq3).1
          have hcR : ∀ w', KI.Rd w' (some ⟨gR, 0, none⟩) R.length R → ∀ j, j < 11 → w'.cell? ⟨gR, q * 11 + j, none⟩ = (itA R[q])[j]? := fun w' h j hj => by
            obtain ⟨b, o, e, _, hc⟩ := h.2 (by omega)
            injection e with e
            injection e with e1 e2
            subst e1; subst e2
            have := hc q hltq j hj
            rwa [KI_sz, Nat.zero_add] at this
          have hcR0 : ∀ w', KI.Rd w' (some ⟨gR, 0, none⟩) R.length R → w'.cell? ⟨gR, q * 11, none⟩ = (itA R[q])[0]? := fun w' h => hcR w' h 0 (by omega)
          have hcR3 : ∀ w', KI.Rd w' (some ⟨gR, 0, none⟩) R.length R → ∀ j, j < 8 → w'.cell? ⟨gR, q * 11 + 3 + j, none⟩ = (itA R[q])[3 + j]? := fun w' h j hj => by rw [Nat.add_assoc]; exact hcR w' h (3 + j) (by omega)
          generalize G ++ (R.take q).map (putO v gv) = L at *
          generalize (findS v R[q].1).isSome = it at *
          generalize (findS v R[q].1).getD 0 = sv at *
          rw [hpp] at hst1
          have hpq := Lib.hid hpp
          have HE := Lib.hid hE1
          have hst2 := Lib.hid hst1
          clear hpp hst hst1 hE1
          cases it
          all_goals
            simp only [if_true, if_false, Bool.false_eq_true] at hst2 hpq
            go_wp2_with (first
              | (go_at_call 31; refine (HE.out _ (hv0.new hrq) (by omega) hPv).mono ?_; rintro e w4 ⟨rfl, hb⟩; have hrq := hrq.call hb; have hRq3 := hRq3.new hb; have hRd := hRd.new hb; have huq := huq.new hb; have hzq := Nat.le_trans hzq hb.size; clear hb))
            go_region_held3 (fun w' => KI.Rd w' (some ⟨gR, 0, none⟩) R.length R) (first | exact hRd | exact hRd5 | exact hRd5.alloc _ | exact hRd6)
              (first
              | (go_at_call 75; refine (refonly_any _ _ _ g0 g1).mono ?_; rintro e w5 ⟨rfl, hb⟩; have hrq5 := (New.drew' hrq).call hb; have hR5 := Kind.Own.new (show KI.Own (World.drew _) _ _ _ from hRq3) hb; have hRd5 := (Kind.Rd.of_own hR5).1; have hu5 := Kind.Own.new (show KO.Own (World.drew _) _ _ _ from huq) hb; have hzq5 := Nat.le_trans hzq hb.size; clear hb)
              | (refine Kind.step_append1 rfl _ _ rfl rfl (hu5.alloc _) (putO v gv R[q]) w5.heap.size rfl (by go_simp) (by go_simp; rw [hpq.out]; rfl) (by omega) KO_b (by have := hrq5.size; simp only [World.size_alloc]; omega) ?_; intro v6 w6 hv6 hg6 hat6; have hrq6 := Kind.Own.grown (hrq5.alloc' _) (hu5.alloc _) hg6; have hR6 := Kind.Own.far (hR5.alloc _) hg6 (fun e => by rcases hsep gR e with h | h <;> omega); have hRd6 := (Kind.Rd.of_own hR6).1; have hz6 := hg6.size))
            go_wp2_with fail
            go_roundw
            case rel => exact ⟨q + 1, by omega, by go_num, hrq6, hR6, by simp only [World.size_alloc] at hz6; omega, fun g e => by
              rcases hat6 with h | h
              · rw [h] at e; exact hsep g e
              · rw [h] at e; injection e with e; simp only [World.size_alloc] at e; exact .inr (by omega), by rw [hst2.out, ← hpq.out]; exact hv6⟩
            case measure => simp [intOf]; omega
        · go_wp2_with fail
          go_ret
          rw [List.take_of_length_le (by omega)] at huq
          exact ⟨_, rfl, by rw [HGq.out, HRq.out]; exact huq, hrq⟩
set_option maxHeartbeats 800000 in
theorem rpend_bad1 (B : Option Addr) (m d : Nat) (v : List Sn) (A : Option Addr) (n c : Nat) (gv : Int) (w : World) (hv : KS.Rd w B m v) (hm : m ≤ 1000) (hPv : PosS v) (hmv : risS 0 v = false) :
    Calls Try.prog 59 #[.slice B m d, .slice A n c, .int .u8 gv] w fun e w' => e = .returned (.slice none 0 0) ∧ New w w' := by
  have hA1 := rvmay_any B m d v
  rw [hmv] at hA1
  have HA := Lib.hid hA1
  clear hA1 hmv
  go_enter Try.func59, Try.ntmps59
  go_wp2_with (first
    | (go_at_call 29; refine (HA.out _ hv (by omega) hPv).mono ?_; rintro e w1 ⟨rfl, hb1⟩))
  go_ret
  exact ⟨rfl, hb1⟩
set_option maxHeartbeats 800000 in
theorem rpend_bad2 (B : Option Addr) (m d : Nat) (v : List Sn) (A : Option Addr) (n c : Nat) (l : List It) (gv : Int) (w : World) (hv : KS.Rd w B m v) (hl : KI.Rd w A n l) (hm : m ≤ 1000) (hn : n ≤ 1000) (hPv : PosS v) (hPl : PosI l) (hmv : risS 0 v = true) (hml : mayI l = false) :
    Calls Try.prog 59 #[.slice B m d, .slice A n c, .int .u8 gv] w fun e w' => e = .returned (.slice none 0 0) ∧ New w w' := by
  have hA1 := rvmay_any B m d v
  rw [hmv] at hA1
  have HA := Lib.hid hA1
  have hB1 := refmay_any A n c l
  rw [hml] at hB1
  have HB := Lib.hid hB1
  clear hA1 hB1 hmv hml
  go_enter Try.func59, Try.ntmps59
  go_wp2_with (first
    | (go_at_call 29; refine (HA.out _ hv (by omega) hPv).mono ?_; rintro e w1 ⟨rfl, hb1⟩)
    | (go_at_call 25; refine (HB.out _ (hl.new hb1) (by omega) hPl).mono ?_; rintro e w2 ⟨rfl, hb⟩; have hb2 := New.call hb1 hb; clear hb))
  go_ret
  exact ⟨rfl, hb2⟩
theorem rpend_any (B : Option Addr) (m d : Nat) (v : List Sn) (A : Option Addr) (n c : Nat) (l : List It) (gv : Int) (w : World) (hv : KS.Rd w B m v) (hl : KI.Rd w A n l) (hm : m ≤ 1000) (hn : n ≤ 1000) (hPv : PosS v) (hPl : PosI l) (g0 : 0 ≤ gv) (g1 : gv < 256) :
    Calls Try.prog 59 #[.slice B m d, .slice A n c, .int .u8 gv] w fun e w' => ∃ u, e = .returned u ∧ KO.Own w' w.heap.size u (pendO v l gv) ∧ New w w' := by
  unfold pendO
  cases hmv : risS 0 v
  · refine (rpend_bad1 B m d v A n c gv w hv hm hPv hmv).mono ?_; rintro e w' ⟨rfl, hb⟩; exact ⟨_, rfl, by simpa using Kind.Own.nil, hb⟩
  cases hml : mayI l
  · refine (rpend_bad2 B m d v A n c l gv w hv hl hm hn hPv hPl hmv hml).mono ?_; rintro e w' ⟨rfl, hb⟩; exact ⟨_, rfl, by simpa using Kind.Own.nil, hb⟩
  · simpa using rpend_ok B m d v A n c l gv w hv hl hm hn hPv hPl g0 g1 hmv hml
end Go.Proofs.Ytkgebhmlogddcaa
