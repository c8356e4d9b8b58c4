/- Contracts: slices.Insert of one at what was told. -/
import Derived.Test.YtkgebhmlogddcaaView6
import Derived.Test.YtkgebhmlogddcaaCopy2
import Derived.Deep.RegionLaw
namespace Go.Proofs.Ytkgebhmlogddcaa
open Go.RowKit
set_option linter.unusedSimpArgs false
attribute [local go_sem] rowAt_alloc_at rowAt_alloc_past rowOk_alloc_at rowOk_alloc_past rowAt_drew rowOk_drew setRow_alloc_at setRow_alloc_past rowAt_setRow rowAt_setRow_far rowOk_setRow cell_rowOk frozen_rowOk setCell_rowOk setRow_setRow con_fold con_get con_size con_set set_all none8_cells equalIn_con storeCells_con
attribute [local go_sem] it_size it_0 it_1 it_2 it_3 it_4 it_5 it_6 it_7 it_8 it_9 it_10 it_set0 it_set1 it_set2 it_fold it_zero it_eta it_fill run_storeCells_it
attribute [local go_sem] sn_size sn_0 sn_1 sn_set0 sn_set1 sn_fold sn_eta sn_fill run_storeCells_sn eqg_sn eqg_it
attribute [local go_sem high] equalIn_sn equalIn_it

theorem KSz : KS.z.cells = KS.enc (0, 0) := by
  have h1 : Try.prog.info? KS.e = some KS.i := KS.hi
  have h2 : KS.i.zero = some KS.z := KS.hz
  have h3 : (Try.prog.info? 68).bind (·.zero) = some (.agg (snA (0, 0))) := by kernel_rfl
  rw [← KS_e, h1] at h3
  have h4 : KS.i.zero = some (.agg (snA (0, 0))) := h3
  rw [Option.some.inj (h2.symm.trans h4)]; rfl
set_option maxRecDepth 100000 in
theorem wpList_zerosS {ops : Array Oper} {rest : List Oper} {o : Oper} {ac : Act} {w : World} {Q : Exit → Act → World → Prop} {base g n c i k t : Nat} {kq : IntKind} {l : List Sn} (hgd : o.guard = none) (s x : Operand)
    (ho : o.op = .call { callee := .builtin .append, args := #[s, x], argTypes := #[46, 3] }) (hs : ac.eval s = .slice (some ⟨g, 0, none⟩) i c) (hx : ac.eval x = .int kq (k : Nat))
    (hown : KS.Own w base (.slice (some ⟨g, 0, none⟩) n c) l) (hi : i ≤ l.length) (h0 : 0 < k) (hc : c < i + k) (h63 : i + k ≤ 1048576) (ht : i + k = t)
    (h : ∀ c' w', KS.Own w' w.heap.size (.slice (some ⟨w.heap.size, 0, none⟩) t c') (l.take i ++ List.replicate k (0, 0)) → New w w' → t ≤ c' → c' ≤ maxLen → wpList Try.prog ops Q rest (ac.put o.dst (.slice (some ⟨w.heap.size, 0, none⟩) t c')) w') : wpList Try.prog ops Q (o :: rest) ac w := by
  subst ht
  obtain ⟨c', w', hrun, h2, h3, h4, h5⟩ := Kind.run_append_zerosK (K := KS) (w := w) (0, 0) KSz 3 o.type kq .i64 Try.underlying3 hown hi h0 hc h63 KS_b
  exact Lib.wpList_append_run w hgd s x _ _ ho _ _ hs hx _ _ hrun (h c' w' h2 h3 h4 h5)
theorem sizeSn (w : World) : (sizeOf 68).run Try.prog w = .ok 2 w := by
  have h1 : Try.prog.info? 68 = some KS.i := KS.hi
  have h2 : KS.i.size = 2 := KS.hs
  simp [sizeOf, typeInfo, h1, h2]
theorem run_overlapsS (w : World) (vb g off lb cb : Nat) (hne : vb ≠ g) (hok : rowOk w vb = true) (hok2 : rowOk w g = true) (hgs : 0 < (rowAt w g).size) :
    (callFunc 79 #[.slice (some ⟨vb, 0, none⟩) 1 1, .slice (some ⟨g, off, none⟩) lb cb]).run Try.prog w = .ok (.value (.bool false)) w := by
  obtain ⟨t, ht⟩ := rowOk_get w hok
  obtain ⟨t2, ht2⟩ := rowOk_get w hok2
  rw [run_callFunc_extern Try.func79 (by kernel_rfl) (by kernel_rfl) (by kernel_rfl) (e := Extern.SlicesOverlaps.overlaps #[46, 46] #[4]) (by kernel_rfl),
    Lib.run_overlaps_apart w 46 4 68 Try.underlying46 2 (fun w => sizeSn w) ⟨vb, 0, none⟩ ⟨g, off, none⟩ 1 1 lb cb hne t t2 (rowAt w vb).size (rowAt w g).size (by simp [World.shape?, ht]) (by simp [World.shape?, ht2]) (by omega) (frozen_rowOk w hok 0) (frozen_rowOk w hok _)]
  rfl

theorem ins_end (l : List Sn) (x : Sn) : l.take l.length ++ [x] ++ l.drop l.length = l ++ [x] := by simp
set_option maxHeartbeats 1600000 in
set_option maxRecDepth 100000 in
theorem insS_end (v : Value) (l : List Sn) (x : Sn) (vb : Nat) (w : World) (base : Nat) (hv : KS.Own w base v l) (hn : l.length ≤ 1000) (hbase : base ≤ w.heap.size) (hok : rowOk w vb = true) (hvb : rowAt w vb = snA x) :
    Calls Try.prog 64 #[v, .int .i64 (l.length : Nat), .slice (some ⟨vb, 0, none⟩) 1 1] w fun e w' => ∃ v', e = .returned v' ∧ KS.Own w' base v' (l ++ [x]) ∧ w.grownBy w' v.ownBlock := by
  obtain ⟨A, c, rfl, hc⟩ := hv.form
  by_cases hcl : c = l.length
  all_goals
    go_enter Try.func64, Try.ntmps64
    go_wp2_with (first
      | (at_builtin; refine Kind.wpList_append1 rfl _ _ rfl rfl hv x vb rfl hok hvb (by omega) KS_b hbase ?_; intro v' w2 hv2 _ hg))
    go_ret
    exact ⟨_, rfl, hv2, hg⟩
theorem wpList_copyS {ops : Array Oper} {rest : List Oper} {o : Oper} {ac : Act} {w : World} {Q : Exit → Act → World → Prop} {base g n c i dn dc sn sc k off : Nat} {sp : Option Addr} {m src : List Sn} (hgd : o.guard = none) (s x : Operand)
    (ho : o.op = .call { callee := .builtin .copy, args := #[s, x], argTypes := #[46, 46] }) (hs : ac.eval s = .slice (some ⟨g, off, none⟩) dn dc) (hx : ac.eval x = .slice sp sn sc)
    (hown : KS.Own w base (.slice (some ⟨g, 0, none⟩) n c) m) (hr : KS.Rd w sp sn src) (hoff : off = i * 2) (hk : k = Nat.min sn dn) (hfit : i + k ≤ m.length)
    (h : ∀ w', KS.Own w' base (.slice (some ⟨g, 0, none⟩) n c) (m.take i ++ src.take k ++ m.drop (i + k)) → w.grownBy w' (some g) → wpList Try.prog ops Q rest (ac.put o.dst (goInt k)) w') : wpList Try.prog ops Q (o :: rest) ac w := by
  subst hoff
  obtain ⟨w', hrun, h2, h3⟩ := Kind.run_copyK (K := KS) (w := w) (dc := dc) (sc := sc) o.type hown hr hk hfit
  refine wpList_plain hgd fun _ hK => ?_
  unfold Oper.wp execOp
  simp only [ho, resolve, invoke, builtin, Sem.run_bind, Sem.run_pure, Result.andThen_ok, List.map_toArray, List.map_cons, List.map_nil, hs, hx]
  have hrun2 : (Builtin.copy_ #[46, 46] o.type #[.slice (some ⟨g, i * 2, none⟩) dn dc, .slice sp sn sc]).run Try.prog w = .ok (goInt k) w' := hrun
  rw [hrun2]
  exact hK _ _ (h w' h2 h3)
theorem step_copyS {ops : Array Oper} {o : Oper} {ac : Act} {w : World} {K : Act → World → Prop} {Q : Exit → Act → World → Prop} {E : Prop} {base g n c i dn dc sn sc k off : Nat} {sp : Option Addr} {m src : List Sn} (hgd : o.guard = none) (s x : Operand)
    (ho : o.op = .call { callee := .builtin .copy, args := #[s, x], argTypes := #[46, 46] }) (hs : ac.eval s = .slice (some ⟨g, off, none⟩) dn dc) (hx : ac.eval x = .slice sp sn sc)
    (hown : KS.Own w base (.slice (some ⟨g, 0, none⟩) n c) m) (hr : KS.Rd w sp sn src) (hoff : off = i * 2) (hk : k = Nat.min sn dn) (hfit : i + k ≤ m.length)
    (h : ∀ w', KS.Own w' base (.slice (some ⟨g, 0, none⟩) n c) (m.take i ++ src.take k ++ m.drop (i + k)) → w.grownBy w' (some g) → K (ac.put o.dst (goInt k)) w') : if Region.wanted o (yielded ops ac.tmps) = true then Oper.wp Try.prog o ac w K Q else E := by
  subst hoff
  obtain ⟨w', hrun, h2, h3⟩ := Kind.run_copyK (K := KS) (w := w) (dc := dc) (sc := sc) o.type hown hr hk hfit
  have hw : Region.wanted o (yielded ops ac.tmps) = true := by simp [Region.wanted, hgd]
  rw [if_pos hw]
  unfold Oper.wp execOp
  simp only [ho, resolve, invoke, builtin, Sem.run_bind, Sem.run_pure, Result.andThen_ok, List.map_toArray, List.map_cons, List.map_nil, hs, hx]
  have hrun2 : (Builtin.copy_ #[46, 46] o.type #[.slice (some ⟨g, i * 2, none⟩) dn dc, .slice sp sn sc]).run Try.prog w = .ok (goInt k) w' := hrun
  rw [hrun2]
  exact h w' h2 h3
theorem step_shiftS {ops : Array Oper} {o : Oper} {ac : Act} {w : World} {K : Act → World → Prop} {Q : Exit → Act → World → Prop} {E : Prop} {base g n c i dn dc sn sc off off2 : Nat} {l : List Sn} (hgd : o.guard = none) (s x : Operand)
    (ho : o.op = .call { callee := .builtin .copy, args := #[s, x], argTypes := #[46, 46] }) (hs : ac.eval s = .slice (some ⟨g, off, none⟩) dn dc) (hx : ac.eval x = .slice (some ⟨g, off2, none⟩) sn sc)
    (hown : KS.Own w base (.slice (some ⟨g, 0, none⟩) n c) l) (hi : i < l.length) (hroom : l.length + 1 ≤ c) (hoff : off = (i + 1) * 2) (hoff2 : off2 = i * 2) (hdn : dn = l.length - i) (hsn : sn = l.length + 1 - i)
    (h : ∀ w', KS.Own w' base (.slice (some ⟨g, 0, none⟩) (l.length + 1) c) (l.take (i + 1) ++ l.drop i) → w.grownBy w' (some g) → K (ac.put o.dst (goInt (l.length - i : Nat))) w') : if Region.wanted o (yielded ops ac.tmps) = true then Oper.wp Try.prog o ac w K Q else E := by
  subst hoff hoff2 hdn hsn
  obtain ⟨w', hrun, h2, h3⟩ := Kind.run_shiftK (K := KS) (w := w) (dc := dc) (sc := sc) o.type hown hi hroom
  have hw : Region.wanted o (yielded ops ac.tmps) = true := by simp [Region.wanted, hgd]
  rw [if_pos hw]
  unfold Oper.wp execOp
  simp only [ho, resolve, invoke, builtin, Sem.run_bind, Sem.run_pure, Result.andThen_ok, List.map_toArray, List.map_cons, List.map_nil, hs, hx]
  have hrun2 : (Builtin.copy_ #[46, 46] o.type #[.slice (some ⟨g, (i + 1) * 2, none⟩) (l.length - i) dc, .slice (some ⟨g, i * 2, none⟩) (l.length + 1 - i) sc]).run Try.prog w = .ok (goInt (l.length - i : Nat)) w' := hrun
  rw [hrun2]
  exact h w' h2 h3

theorem ins_room (l : List Sn) (i : Nat) (x : Sn) (hi : i < l.length) (k : Nat) (hk : k = 1) : (l.take (i + 1) ++ l.drop i).take i ++ [x].take k ++ (l.take (i + 1) ++ l.drop i).drop (i + k) = l.take i ++ [x] ++ l.drop i := by
  subst hk
  have h1 : (l.take (i + 1)).length = i + 1 := by rw [List.length_take]; omega
  rw [List.take_append_of_le_length (by omega), List.take_take, Nat.min_eq_left (by omega), List.drop_append, List.drop_of_length_le (by omega), List.nil_append, h1, Nat.sub_self]
  rfl
set_option maxHeartbeats 1600000 in
set_option maxRecDepth 100000 in
theorem insS_room (l : List Sn) (i : Nat) (x : Sn) (vb g c : Nat) (w : World) (base : Nat) (hv : KS.Own w base (.slice (some ⟨g, 0, none⟩) l.length c) l) (hi : i < l.length) (hroom : l.length + 1 ≤ c) (hn : l.length ≤ 1000) (hok : rowOk w vb = true) (hvb : rowAt w vb = snA x) (hne : vb ≠ g) :
    Calls Try.prog 64 #[.slice (some ⟨g, 0, none⟩) l.length c, .int .i64 (i : Nat), .slice (some ⟨vb, 0, none⟩) 1 1] w fun e w' => ∃ v', e = .returned v' ∧ KS.Own w' base v' (l.take i ++ [x] ++ l.drop i) ∧ w.grownBy w' (some g) := by
  obtain ⟨g', eg, _, _, _, hg2, hg3⟩ := hv.spotK (by omega)
  injection eg with eg
  injection eg with eg _ _
  subst eg
  have hc63 : c ≤ 9223372036854775807 := by
    rcases hv.2 with ⟨e, _⟩ | ⟨_, cap, _, e, _, _, _, hm, _⟩
    · cases e
    · injection e with _ _ e; subst e; simpa [maxLen] using hm
  have hov := fun off lb cb => run_overlapsS w vb g off lb cb hne hok hg2 (by rw [hg3, KS_sz]; omega)
  have hz1 : ¬ ((i : Int) = (l.length : Int)) := by omega
  have hb1 : (0 : Int) ≤ (i : Int) + 1 := by omega
  have hb2 : i ≤ l.length := by omega
  have hb3 : ¬ (c = i + 1) := by omega
  have hb4 : ¬ (c = i) := by omega
  have hb5 : (i : Int) ≤ (l.length : Int) + 1 := by omega
  have hw1 : IntKind.i64.wrap ((i : Int) + 1) = (i : Int) + 1 := by rw [IntKind.wrap_i64]; omega
  have hw2 : IntKind.i64.wrap ((l.length : Int) + 1) = (l.length : Int) + 1 := by rw [IntKind.wrap_i64]; omega
  go_enter Try.func64, Try.ntmps64
  go_wp2_with (simp only [hov])
  go_region_law (refine step_shiftS (dn := l.length - i) (dc := c - (i + 1)) (sn := l.length + 1 - i) (sc := c - i) (off := (i + 1) * 2) (off2 := i * 2) rfl _ _ rfl (by simp [Act.eval, Act.put]) (by simp [Act.eval, Act.put]) (show KS.Own w.drew base _ l from hv) hi hroom rfl rfl (by omega) (by omega) ?_; intro w2 hv2 hg4)
  have hvb2 : rowAt w2 vb = snA x := by rw [← hvb]; unfold rowAt; rw [hg4.block vb (rowOk_lt w hok) (by simpa using hne)]; rfl
  have hok2 : rowOk w2 vb = true := by rw [← hok]; unfold rowOk; rw [hg4.block vb (rowOk_lt w hok) (by simpa using hne)]; rfl
  have hll : (l.take (i + 1) ++ l.drop i).length = l.length + 1 := by simp only [List.length_append, List.length_take, List.length_drop]; omega
  have hmin : Nat.min 1 (l.length + 1 - i) = 1 := Nat.min_eq_left (by omega)
  go_wp2_with (first
    | (refine wpList_copyS (i := i) (k := 1) rfl _ _ rfl rfl rfl hv2 (Kind.Rd.single (K := KS) hok2 hvb2) rfl hmin.symm (by omega) ?_; intro w3 hv3 hg5; rw [ins_room l i x hi 1 rfl] at hv3))
  go_ret
  exact ⟨_, rfl, hv3, hg5.os.trans hg4.os, hg5.tape.trans hg4.tape, hg5.output.trans hg4.output, Nat.le_trans hg4.size hg5.size, fun k hk hkr => (hg5.block k (Nat.lt_of_lt_of_le hk hg4.size) hkr).trans (hg4.block k hk hkr)⟩

theorem ins_grow (l : List Sn) (i : Nat) (x : Sn) (hi : i < l.length) (k : Nat) (hk : k = 1) (q : Nat) (hq : q = l.length - i) :
    ((l.take i ++ List.replicate (l.length + 1 - i) (0, 0)).take i ++ [x].take k ++ (l.take i ++ List.replicate (l.length + 1 - i) (0, 0)).drop (i + k)).take (i + 1) ++ (l.drop i).take q ++ ((l.take i ++ List.replicate (l.length + 1 - i) (0, 0)).take i ++ [x].take k ++ (l.take i ++ List.replicate (l.length + 1 - i) (0, 0)).drop (i + k)).drop (i + 1 + q) = l.take i ++ [x] ++ l.drop i := by
  subst hk; subst hq
  have h1 : (l.take i).length = i := by rw [List.length_take]; omega
  have h2 : (l.take i ++ List.replicate (l.length + 1 - i) ((0, 0) : Sn)).take i = l.take i := by rw [List.take_append_of_le_length (by omega), List.take_of_length_le (by omega)]
  have h3 : (l.take i ++ [x]).length = i + 1 := by simp only [List.length_append, h1, List.length_cons, List.length_nil]
  generalize hZ : (l.take i ++ List.replicate (l.length + 1 - i) ((0, 0) : Sn)).drop (i + 1) = Z at *
  have h4 : Z.length = l.length - i := by rw [← hZ, List.length_drop, List.length_append, h1, List.length_replicate]; omega
  have h5 : (l.take i ++ [x] ++ Z).length = i + 1 + (l.length - i) := by rw [List.length_append, h3, h4]
  rw [h2, show ([x] : List Sn).take 1 = [x] from rfl, List.drop_of_length_le (l := l.take i ++ [x] ++ Z) (by omega), List.append_nil, List.take_append_of_le_length (l₁ := l.take i ++ [x]) (by omega), List.take_of_length_le (l := l.take i ++ [x]) (by omega), List.take_of_length_le (l := l.drop i) (by rw [List.length_drop]; omega)]
set_option maxHeartbeats 1600000 in
set_option maxRecDepth 100000 in
theorem insS_grow (l : List Sn) (i : Nat) (x : Sn) (vb g c : Nat) (w : World) (base : Nat) (hv : KS.Own w base (.slice (some ⟨g, 0, none⟩) l.length c) l) (hi : i < l.length) (hroom : c < l.length + 1) (hn : l.length ≤ 1000) (hbase : base ≤ w.heap.size) (hok : rowOk w vb = true) (hvb : rowAt w vb = snA x) :
    Calls Try.prog 64 #[.slice (some ⟨g, 0, none⟩) l.length c, .int .i64 (i : Nat), .slice (some ⟨vb, 0, none⟩) 1 1] w fun e w' => ∃ v', e = .returned v' ∧ KS.Own w' base v' (l.take i ++ [x] ++ l.drop i) ∧ w.grownBy w' (some g) := by
  obtain ⟨g', eg, _, hlc, _, hg2, hg3⟩ := hv.spotK (by omega)
  injection eg with eg
  injection eg with eg _ _
  subst eg
  have hrd := (Kind.Rd.of_own hv).1
  obtain rfl : c = l.length := by omega
  have hz1 : ¬ ((i : Int) = (l.length : Int)) := by omega
  have hb1 : (0 : Int) ≤ (i : Int) + 1 := by omega
  have hb2 : i ≤ l.length := by omega
  have hb4 : ¬ (l.length = i) := by omega
  have hb6 : (l.length : Int) < (l.length : Int) + 1 := by omega
  have hb5 : (i : Int) ≤ (l.length : Int) + 1 := by omega
  have hw1 : IntKind.i64.wrap ((i : Int) + 1) = (i : Int) + 1 := by rw [IntKind.wrap_i64]; omega
  have hw2 : IntKind.i64.wrap ((l.length : Int) + 1) = (l.length : Int) + 1 := by rw [IntKind.wrap_i64]; omega
  have hw3 : IntKind.i64.wrap ((l.length : Int) + 1 - (i : Int)) = ((l.length + 1 - i : Nat) : Int) := by rw [IntKind.wrap_i64]; omega
  have hvlt := rowOk_lt w hok
  have hglt := rowOk_lt w hg2
  have hll : (l.take i ++ List.replicate (l.length + 1 - i) ((0, 0) : Sn)).length = l.length + 1 := by rw [List.length_append, List.length_take, List.length_replicate]; omega
  have hmin : Nat.min 1 (l.length + 1 - i) = 1 := Nat.min_eq_left (by omega)
  have hmin2 : Nat.min (l.length - i) (l.length - i) = l.length - i := Nat.min_self _
  have hcut := hrd.cut (k := i) (cap := l.length) (by omega) (Nat.le_refl _)
  rw [if_neg hb4, KS_sz] at hcut
  have hadd : (some ⟨g, 0, none⟩ : Option Addr).map (·.add (i * 2)) = some ⟨g, i * 2, none⟩ := by simp only [Option.map_some]; unfold Addr.add; split <;> simp_all
  rw [hadd] at hcut
  generalize hZ : l.take i ++ List.replicate (l.length + 1 - i) ((0, 0) : Sn) = Z at *
  go_enter Try.func64, Try.ntmps64
  go_wp2_with (first
    | (at_builtin; refine wpList_zerosS (i := i) (k := l.length + 1 - i) (t := l.length + 1) rfl _ _ rfl rfl rfl hv (by omega) (by omega) (by omega) (by omega) (by omega) ?_; rw [hZ]; intro c2 w2 hv2 hn2 hc2 hc3; have hz2 := hn2.size; have hvb2 : rowAt w2 vb = snA x := (by rw [← hvb]; exact rowAt_below hn2 vb hvlt); have hok2 : rowOk w2 vb = true := (by rw [← hok]; exact rowOk_below hn2 vb hvlt); have hb7 : ¬ (c2 = i) := (by omega); have hb8 : ¬ (c2 = i + 1) := (by omega); have hb9 : c2 ≤ 9223372036854775807 := (by simpa [maxLen] using hc3))
    | (refine wpList_copyS (i := i) (k := 1) rfl _ _ rfl rfl rfl hv2 (Kind.Rd.single (K := KS) hok2 hvb2) rfl hmin.symm (by omega) ?_; intro w3 hv3 hg5))
  have hn3 : New w w3 := Kind.Own.grown hn2 hv2 hg5
  have hz3 := hn3.size
  have hll3 : (Z.take i ++ [x].take 1 ++ Z.drop (i + 1)).length = l.length + 1 := by simp only [List.length_append, List.length_take, List.length_drop, List.length_cons, List.length_nil]; omega
  go_region_law (refine step_copyS (i := i + 1) (k := l.length - i) (dn := l.length + 1 - (i + 1)) (dc := c2 - (i + 1)) (sn := l.length - i) (sc := l.length - i) (off := (i + 1) * 2) (sp := some ⟨g, i * 2, none⟩) rfl _ _ rfl (by simp [Act.eval, Act.put]) (by simp [Act.eval, Act.put]) (show KS.Own w3.drew _ _ _ from hv3) (hcut.new hn3.drew') rfl (by rw [show l.length + 1 - (i + 1) = l.length - i by omega]; exact hmin2.symm) (by omega) ?_; intro w4 hv4 hg6)
  have hE := ins_grow l i x hi 1 rfl (l.length - i) rfl
  rw [hZ] at hE
  rw [hE] at hv4
  have hn4 : New w w4 := Kind.Own.grown hn3.drew' (show KS.Own w3.drew _ _ _ from hv3) hg6
  go_wp2_with fail
  go_ret
  exact ⟨_, rfl, hv4.lower hbase, hn4.os, hn4.tape, hn4.output, hn4.size, fun k hk _ => hn4.block k hk⟩

theorem insS_any (v : Value) (l : List Sn) (i : Nat) (x : Sn) (vb : Nat) (w : World) (base : Nat) (hv : KS.Own w base v l) (hi : i ≤ l.length) (hn : l.length ≤ 1000) (hbase : base ≤ w.heap.size) (hok : rowOk w vb = true) (hvb : rowAt w vb = snA x) (hne : v.ownBlock ≠ some vb) :
    Calls Try.prog 64 #[v, .int .i64 (i : Nat), .slice (some ⟨vb, 0, none⟩) 1 1] w fun e w' => ∃ v', e = .returned v' ∧ KS.Own w' base v' (l.take i ++ [x] ++ l.drop i) ∧ w.grownBy w' v.ownBlock := by
  rcases Nat.lt_or_ge i l.length with h | h
  · obtain ⟨A, c, rfl, hc⟩ := hv.form
    obtain ⟨g, rfl, _⟩ := hv.spotK (by omega)
    by_cases hr : l.length + 1 ≤ c
    · exact insS_room l i x vb g c w base hv h hr hn hok hvb (fun e => hne (by rw [e]; rfl))
    · exact insS_grow l i x vb g c w base hv h (by omega) hn hbase hok hvb
  · obtain rfl : i = l.length := by omega
    rw [ins_end]
    exact insS_end v l x vb w base hv hn hbase hok hvb
end Go.Proofs.Ytkgebhmlogddcaa
