/- Contracts: slices.DeleteFunc at what was told; view.Drop. -/
import Derived.Test.YtkgebhmlogddcaaView4
namespace Go.Proofs.Ytkgebhmlogddcaa
open Go.RowKit
set_option linter.unusedSimpArgs false
attribute [local go_sem] rowAt_alloc_at rowAt_alloc_past rowOk_alloc_at rowOk_alloc_past rowAt_drew rowOk_drew setRow_alloc_at setRow_alloc_past rowAt_setRow rowAt_setRow_far rowOk_setRow cell_rowOk frozen_rowOk setCell_rowOk setRow_setRow con_fold con_get con_size con_set set_all none8_cells equalIn_con storeCells_con
attribute [local go_sem] it_size it_0 it_1 it_2 it_3 it_4 it_5 it_6 it_7 it_8 it_9 it_10 it_set0 it_set1 it_set2 it_fold it_zero it_eta it_fill run_storeCells_it
attribute [local go_sem] sn_size sn_0 sn_1 sn_set0 sn_set1 sn_fold sn_eta sn_fill run_storeCells_sn eqg_sn eqg_it
attribute [local go_sem high] equalIn_sn equalIn_it
attribute [local go_sem] run_storeCells_snp

theorem own_cells {w : World} {base n c g : Nat} {m : List Sn} (h : KS.Own w base (.slice (some ⟨g, 0, none⟩) n c) m) (k : Nat) (hk : k < m.length) :
    ∀ w', New w w' → w'.cell? ⟨g, k * 2, none⟩ = some (.int .u32 m[k].1) ∧ w'.cell? ⟨g, k * 2 + 1, none⟩ = some (.int .u64 m[k].2) := by
  obtain ⟨hr, _⟩ := Kind.Rd.of_own h
  obtain ⟨b, o, e, hb, hc⟩ := hr.2 (by have := hr.1; omega)
  injection e with e
  injection e with e1 e2
  subst e1; subst e2
  intro w' hw
  have c0 := hc k hk 0 (by decide)
  have c1 := hc k hk 1 (by decide)
  rw [KS_sz, KS_enc, Nat.zero_add] at c0 c1
  exact ⟨(hw.cell (p := ⟨g, _, none⟩) hb).trans c0, (hw.cell (p := ⟨g, _, none⟩) hb).trans c1⟩

theorem wpList_clearS {ops : Array Oper} {rest : List Oper} {o : Oper} {ac : Act} {w : World} {Q : Exit → Act → World → Prop} {base g n c i q e : Nat} {l : List Sn} (hgd : o.guard = none) (x : Operand)
    (ho : o.op = .call { callee := .builtin .clear, args := #[x], argTypes := #[KS.t] }) (hx : ac.eval x = .slice (some ⟨g, i * 2, none⟩) q e) (hown : KS.Own w base (.slice (some ⟨g, 0, none⟩) n c) l) (hi : i < l.length) (hq : q = l.length - i)
    (h : ∀ w', KS.Own w' base (.slice (some ⟨g, 0, none⟩) i c) (l.take i) → w.grownBy w' (some g) → wpList Try.prog ops Q rest (ac.put o.dst (.tuple #[])) w') : wpList Try.prog ops Q (o :: rest) ac w := by
  obtain ⟨w', hrun, h2, h3⟩ := Kind.run_clear (e := e) o.type hown hi hq snz_one
  rw [KS_sz] at hrun
  refine wpList_plain hgd fun _ hK => ?_
  unfold Oper.wp execOp
  simp only [ho, resolve, invoke, builtin, Sem.run_bind, Sem.run_pure, Result.andThen_ok, List.map_toArray, List.map_cons, List.map_nil, hx, hrun]
  exact hK _ _ (h w' h2 h3)

set_option maxHeartbeats 1600000 in
set_option maxRecDepth 100000 in
theorem deleteF_any (v : Value) (l : List Sn) (g : FuncId) (cap : Value) (p : Sn → Bool) (w0 w : World) (base : Nat) (hv : KS.Own w base v l) (hn : l.length ≤ 1000) (h0 : New w0 w) (hbase : w0.heap.size ≤ base)
    (hcall : ∀ args w', (callFunc g args).run Try.prog w' = .ok (.enter g args) w') (hp : ∀ x w', New w0 w' → Calls Try.prog g #[.agg (snA x), cap] w' fun e w'' => e = .returned (.bool (p x)) ∧ New w' w'') :
    Calls Try.prog 65 #[v, .func (.func g) #[] #[cap]] w fun e w' => ∃ v', e = .returned v' ∧ KS.Own w' base v' (l.filter fun x => !p x) ∧ New w0 w' := by
  obtain ⟨A, c, rfl, hc, hrd⟩ := hv.rd
  have HP := Lib.hid hp
  have HX := Lib.hid (indexF_any A l.length c l g cap p w0 w hrd (by omega) h0 hcall hp)
  clear hp
  by_cases ha : l.any p = true
  · have hi : l.findIdx p < l.length := List.findIdx_lt_length.2 (by simpa [List.any_eq_true] using ha)
    have hX := HX.out
    rw [idxP, if_pos ha] at hX
    have HX := Lib.hid hX
    have hne : (((l.findIdx p : Nat) : Int) == -1) = false := by simp
    generalize hii : l.findIdx p = i at *
    obtain ⟨gg, rfl, -, hlc, hg1, hg2, hg3⟩ := hv.spotK (by omega)
    go_enter Try.func65, Try.ntmps65
    go_wp2_with (first | (go_at_call 81; refine HX.out.mono ?_; rintro e w1 ⟨rfl, hb1⟩))
    have hv1 := hv.new hb1
    have h01 := h0.call hb1
    have hin : l.take i = (l.take i).filter fun x => !p x := by
      symm
      rw [List.filter_eq_self]
      intro x hx
      obtain ⟨q, hq, rfl⟩ := List.getElem_of_mem hx
      simp only [List.length_take] at hq
      rw [List.getElem_take]
      have := List.not_of_lt_findIdx (p := p) (xs := l) (i := q) (by omega)
      simpa using this
    have hpi : p l[i] = true := by subst hii; exact List.findIdx_getElem
    have hin2 : l.take i = (l.take (i + 1)).filter fun x => !p x := by
      rw [filter_step _ l i hi, ← hin, hpi]; simp
    clear HX hX hii hin hpi
    have iw : IntKind.i64.wrap ((i : Int) + 1) = (i : Int) + 1 := by rw [IntKind.wrap_i64]; omega
    go_wp2_with fail
    go_loopw [5, 6] (fun a b wr => ∃ (a' b' : Nat) (m : List Sn), a = .int .i64 a' ∧ b = .int .i64 b' ∧ a' < b' ∧ b' ≤ l.length ∧ m.length = l.length ∧ m.take a' = (l.take b').filter (fun x => !p x) ∧ m.drop b' = l.drop b' ∧ New w0 wr ∧ KS.Own wr base (.slice (some ⟨gg, 0, none⟩) l.length c) m) (fun _ b _ => l.length - (intOf b).toNat)
    case atStart => exact ⟨i, i + 1, l, rfl, by go_num, by omega, by omega, rfl, hin2, rfl, h01, hv1⟩
    case round =>
      obtain ⟨a, b, m, rfl, rfl, hab, hbl, hml, h1, h2, hr, hvm⟩ := hrel
      by_cases hlt : b < l.length
      · have hc0 := fun w' hw => (own_cells hvm b (by omega) w' hw).1
        have hc1 := fun w' hw => (own_cells hvm b (by omega) w' hw).2
        have hrw := New.rfl' wr
        have hbm : b < m.length := by omega
        have hkeep := Lib.hid (del_keep l m p a b hlt hml hab h1 h2)
        have hskip := Lib.hid (del_skip l m p a b hlt hml h1 h2)
        clear h1 h2 hin2
        go_wp2_with fail
        refine (HP.out _ _ (hr.alloc' _)).mono ?_
        rintro e w2 ⟨rfl, hb⟩
        have hA1 := rowAt_below hb wr.heap.size (by simp)
        have hO1 := rowOk_below hb wr.heap.size (by simp)
        simp only [rowAt_alloc_at _ _ _ _ rfl, rowOk_alloc_at _ _ _ _ rfl] at hA1 hO1
        have hv2 := (hvm.alloc _).new hb
        have hr2 := (hr.alloc' _).call hb
        have hz2 := hb.size
        simp only [World.size_alloc] at hz2
        clear hb
        obtain ⟨g2, eg, -, _, hg21, hg22, hg23⟩ := hv2.spotK (by omega)
        injection eg with eg
        injection eg with eg
        subst eg
        have hg24 : a * 2 + 2 ≤ (rowAt w2 gg).size := by rw [hg23, KS_sz]; omega
        clear hg23 hg3
        generalize hpk : p m[b] = pk at *
        have Hpk := Lib.hid hpk
        clear hpk
        cases pk
        · go_wp2_with fail
          go_roundw
          case rel =>
            obtain ⟨e1, e2⟩ := hkeep.out trivial
            exact ⟨a + 1, b + 1, m.set a m[b], by go_num, by go_num, by omega, by omega, by rw [List.length_set]; exact hml, e1, e2, hr2.row _ _ (by omega), hv2.putK m[b] (by omega)⟩
          case measure => simp [intOf]; omega
        · go_wp2_with fail
          go_roundw
          case rel =>
            obtain ⟨e1, e2⟩ := hskip.out (by rw [getElem!_pos m b hbm]; exact Hpk.out)
            exact ⟨a, b + 1, m, rfl, by go_num, by omega, by omega, hml, e1, e2, hr2, hv2⟩
          case measure => simp [intOf]; omega
      · obtain rfl : b = l.length := by omega
        have hres : m.take a = l.filter fun x => !p x := by rw [h1, List.take_of_length_le (Nat.le_refl _)]
        have Hres := Lib.hid hres
        have hca : ¬ c = a := by omega
        have i1 : (a : Int) ≤ (l.length : Int) := by omega
        have i2 : (a : Int) ≤ (c : Int) := by omega
        have i3 : (l.length : Int) ≤ (c : Int) := by omega
        clear hres h1 h2 hin2 hg3
        go_wp2_with (first
          | (refine wpList_clearS rfl _ rfl rfl hvm (i := a) (by omega) (by omega) ?_; intro w5 hv5 hg5; have hr5 := Kind.Own.grown hr (hvm.lower hbase) hg5))
        go_ret
        exact ⟨_, rfl, by rw [← Hres.out]; exact hv5, hr5⟩
  · have hall : l.filter (fun x => !p x) = l := by
      rw [List.filter_eq_self]
      intro x hx
      have : ¬ p x = true := fun e => ha (List.any_eq_true.2 ⟨x, hx, e⟩)
      simpa using this
    rw [hall]
    have hX := HX.out
    rw [idxP, if_neg ha] at hX
    have HX := Lib.hid hX
    clear hX ha hall
    go_enter Try.func65, Try.ntmps65
    go_wp2_with (first | (go_at_call 81; refine HX.out.mono ?_; rintro e w1 ⟨rfl, hb1⟩))
    go_ret
    exact ⟨_, rfl, hv.new hb1, h0.call hb1⟩
end Go.Proofs.Ytkgebhmlogddcaa
