/- Contracts: slices.IndexFunc, slices.DeleteFunc at what was told; view.Drop. -/
import Derived.Test.YtkgebhmlogddcaaView3
import Derived.Test.YtkgebhmlogddcaaClear
namespace Go.Proofs.Ytkgebhmlogddcaa
open Go.RowKit
set_option linter.unusedSimpArgs false
attribute [local go_sem] rowAt_alloc_at rowAt_alloc_past rowOk_alloc_at rowOk_alloc_past rowAt_drew rowOk_drew setRow_alloc_at setRow_alloc_past rowAt_setRow rowAt_setRow_far rowOk_setRow cell_rowOk frozen_rowOk setCell_rowOk setRow_setRow con_fold con_get con_size con_set set_all none8_cells equalIn_con storeCells_con
attribute [local go_sem] it_size it_0 it_1 it_2 it_3 it_4 it_5 it_6 it_7 it_8 it_9 it_10 it_set0 it_set1 it_set2 it_fold it_zero it_eta it_fill run_storeCells_it
attribute [local go_sem] sn_size sn_0 sn_1 sn_set0 sn_set1 sn_fold sn_eta sn_fill run_storeCells_sn eqg_sn eqg_it
attribute [local go_sem high] equalIn_sn equalIn_it

/-- where something first holds, or -1 -/
def idxP (l : List Sn) (p : Sn → Bool) : Int := if l.any p then (l.findIdx p : Nat) else -1
theorem idxP_at (l : List Sn) (p : Sn → Bool) (k : Nat) (hk : k < l.length) (h : p l[k] = true) (hq : ∀ q, (h : q < l.length) → q < k → Hid (p l[q] = false)) : idxP l p = k := by
  rw [idxP, if_pos (List.any_eq_true.2 ⟨_, List.getElem_mem hk, h⟩), (List.findIdx_eq hk).2 ⟨h, fun j hj => by simpa using (hq j (by omega) hj).out⟩]
theorem idxP_no (l : List Sn) (p : Sn → Bool) (hq : ∀ q, (h : q < l.length) → Hid (p l[q] = false)) : idxP l p = -1 := by
  rw [idxP, if_neg]
  rw [List.any_eq_true]
  rintro ⟨x, hx, e⟩
  obtain ⟨q, hq2, rfl⟩ := List.getElem_of_mem hx
  rw [(hq q hq2).out] at e; cases e
set_option maxHeartbeats 800000 in
theorem indexF_any (A : Option Addr) (n c : Nat) (l : List Sn) (g : FuncId) (cap : Value) (p : Sn → Bool) (w0 w : World) (hl : KS.Rd w A n l) (hn : n ≤ 140737488355328) (h0 : New w0 w)
    (hcall : ∀ args w', (callFunc g args).run Try.prog w' = .ok (.enter g args) w') (hp : ∀ x w', New w0 w' → Calls Try.prog g #[.agg (snA x), cap] w' fun e w'' => e = .returned (.bool (p x)) ∧ New w' w'') :
    Calls Try.prog 81 #[.slice A n c, .func (.func g) #[] #[cap]] w fun e w' => e = .returned (.int .i64 (idxP l p)) ∧ New w w' := by
  obtain rfl : l.length = n := hl.1
  have HP := Lib.hid hp
  clear hp
  go_enter Try.func81, Try.ntmps81
  have hwA := fun w' (h : New w w') n hn => rowAt_below h n hn
  have hwO := fun w' (h : New w w') n hn => rowOk_below h n hn
  have hwS := fun w' (h : New w w') n (hn : n < w.heap.size) => eq_true (Nat.lt_of_lt_of_le hn h.size)
  go_wp2_with fail
  go_loopw [8] (fun i wr => ∃ k : Nat, k ≤ l.length ∧ i = .int .i64 k ∧ New w wr ∧ ∀ q, (h : q < l.length) → q < k → Hid (p l[q] = false)) (fun i _ => l.length - (intOf i).toNat)
  case atStart => exact ⟨0, by omega, rfl, New.rfl' w, fun _ _ h => absurd h (by omega)⟩
  case round =>
    obtain ⟨k, hk, rfl, hr, hq⟩ := hrel
    by_cases hlt : k < l.length
    · skip
      obtain ⟨bhl, ohl, rfl, hbhl, hchl⟩ := hl.2 (by omega)
      have hrhl : ∀ w', New w w' → ∀ k (hk : k < l.length), w'.cell? ⟨bhl, ohl + k * 2, none⟩ = (snA l[k])[0]? := fun w' hw k hk => (hw.cell (p := ⟨bhl, _, none⟩) hbhl).trans (hchl k hk 0 (by decide))
      have hshl : ∀ w', New w w' → ∀ k (hk : k < l.length) j, j < 2 → w'.cell? ⟨bhl, ohl + k * 2 + j, none⟩ = (snA l[k])[j]? := fun w' hw k hk j hj => (hw.cell (p := ⟨bhl, _, none⟩) hbhl).trans (hchl k hk j hj)
      clear hchl
      go_wp2_with fail
      refine (HP.out _ _ (h0.call hr)).mono ?_
      rintro e w1 ⟨rfl, hb⟩
      have hr2 := hr.call hb
      clear hb
      generalize hpk : p l[k] = pk at *
      have Hpk := Lib.hid hpk
      clear hpk
      cases pk
      · go_wp2_with fail
        go_roundw
        case rel => exact ⟨k + 1, by omega, by go_num, hr2, fun q h h2 => by
          rcases Nat.lt_succ_iff_lt_or_eq.1 h2 with h3 | rfl
          · exact hq q h h3
          · exact Hpk⟩
        case measure => simp [intOf]; omega
      · go_wp2_with fail
        go_ret
        exact ⟨by rw [idxP_at l p k hlt Hpk.out hq]; rfl, hr2⟩
    · go_wp2_with fail
      go_ret
      exact ⟨by rw [idxP_no l p fun q h => hq q h (by omega)]; rfl, hr⟩

theorem run_storeCells_snp (w : World) (g p : Nat) (x : Sn) (h : rowOk w g = true) (hs : p * 2 + 2 ≤ (rowAt w g).size) :
    (storeCells ⟨g, p * 2, none⟩ (snA x).toList).run Try.prog w = .ok () (w.setRow g (KS.putK (rowAt w g) p x)) := Kind.run_storeCells_k KS w g p x h hs
theorem snz_one : ∀ u ∈ KS.z.cells, u.oneCell' = true := by
  have h1 : Try.prog.info? KS.e = some KS.i := KS.hi
  have h2 : KS.i.zero = some KS.z := KS.hz
  have h3 : (Try.prog.info? 68).bind (·.zero) = some (.agg (snA (0, 0))) := by kernel_rfl
  rw [← KS_e, h1] at h3
  have h4 : KS.i.zero = some (.agg (snA (0, 0))) := h3
  rw [h2] at h4
  injection h4 with h4
  rw [h4]
  intro u hu
  simp [Value.cells, snA] at hu
  rcases hu with rfl | rfl <;> rfl

theorem del_keep (l m : List Sn) (p : Sn → Bool) (a b : Nat) (hb : b < l.length) (hml : m.length = l.length) (hab : a < b) (h1 : m.take a = (l.take b).filter fun x => !p x) (h2 : m.drop b = l.drop b) (hp : p m[b] = false) :
    (m.set a m[b]).take (a + 1) = (l.take (b + 1)).filter (fun x => !p x) ∧ (m.set a m[b]).drop (b + 1) = l.drop (b + 1) := by
  have e : m[b] = l[b] := by
    have h3 : (m.drop b)[0]? = (l.drop b)[0]? := by rw [h2]
    simpa [hb, hml] using h3
  constructor
  · rw [List.take_succ_eq_append_getElem (by rw [List.length_set]; omega), List.take_set_of_le (Nat.le_refl _), h1, filter_step _ l b hb]
    simp [← e, hp]
  · rw [List.drop_set_of_lt (by omega)]
    have := congrArg (List.drop 1) h2
    simpa [List.drop_drop, Nat.add_comm] using this
theorem del_skip (l m : List Sn) (p : Sn → Bool) (a b : Nat) (hb : b < l.length) (hml : m.length = l.length) (h1 : m.take a = (l.take b).filter fun x => !p x) (h2 : m.drop b = l.drop b) (hp : p m[b]! = true) :
    m.take a = (l.take (b + 1)).filter (fun x => !p x) ∧ m.drop (b + 1) = l.drop (b + 1) := by
  have e : m[b]! = l[b] := by
    have h3 : (m.drop b)[0]? = (l.drop b)[0]? := by rw [h2]
    simpa [hb, hml] using h3
  constructor
  · rw [h1, filter_step _ l b hb, ← e, hp]; simp
  · have := congrArg (List.drop 1) h2
    simpa [List.drop_drop, Nat.add_comm] using this
end Go.Proofs.Ytkgebhmlogddcaa
