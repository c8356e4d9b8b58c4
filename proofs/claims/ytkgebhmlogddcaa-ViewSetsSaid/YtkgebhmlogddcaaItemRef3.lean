/- Contracts of the reference of the layer item: Same, Drop, Change, Add. -/
import Derived.Test.YtkgebhmlogddcaaItemRef2
import Derived.Test.YtkgebhmlogddcaaSt
namespace Go.Proofs.Ytkgebhmlogddcaa
open Go.RowKit
set_option linter.unusedSimpArgs false
attribute [local go_sem] rowAt_alloc_at rowAt_alloc_past rowOk_alloc_at rowOk_alloc_past rowAt_drew rowOk_drew setRow_alloc_at setRow_alloc_past rowAt_setRow rowAt_setRow_far rowOk_setRow cell_rowOk frozen_rowOk setCell_rowOk setRow_setRow con_fold con_get con_size con_set set_all none8_cells equalIn_con storeCells_con
attribute [local go_sem] it_size it_0 it_1 it_2 it_3 it_4 it_5 it_6 it_7 it_8 it_9 it_10 it_set0 it_set1 it_set2 it_fold it_zero it_eta it_fill run_storeCells_it
attribute [local go_sem high] equalIn_it
attribute [local go_sem] run_storeCells_itp eqg_it

theorem list_ne_at (a b : List It) (k : Nat) (ha : k < a.length) (hb : k < b.length) (h : a[k] ≠ b[k]) : a ≠ b := by
  intro e; subst e; exact h rfl
set_option maxHeartbeats 800000 in
theorem refsame_any (A : Option Addr) (n c : Nat) (a : List It) (B : Option Addr) (m d : Nat) (b : List It) (w : World) (ha : KI.Rd w A n a) (hb : KI.Rd w B m b) (hn : n ≤ 140737488355328) (hm : m ≤ 140737488355328) :
    Calls Try.prog 18 #[.slice A n c, .slice B m d] w fun e w' => e = .returned (.bool (decide (a = b))) ∧ New w w' := by
  obtain rfl : a.length = n := ha.1
  obtain rfl : b.length = m := hb.1
  by_cases hab : a.length = b.length
  · have hE1 : ((a.length : Int) == (b.length : Int)) = true := by simp [hab]
    have HAB := Lib.hid hab
    clear hab
    go_enter Try.func18, Try.ntmps18
    go_wp2_with fail
    have hwA := fun w' (h : New w w') n hn => rowAt_below h n hn
    have hwO := fun w' (h : New w w') n hn => rowOk_below h n hn
    have hwS := fun w' (h : New w w') n (hn : n < w.heap.size) => eq_true (Nat.lt_of_lt_of_le hn h.size)
    go_loopw [5] (fun i wr => ∃ k : Nat, k ≤ a.length ∧ i = .int .i64 k ∧ New w wr ∧ ∀ q, (h : q < a.length) → (h2 : q < b.length) → q < k → Hid (a[q] = b[q])) (fun i _ => a.length - (intOf i).toNat)
    case atStart => exact ⟨0, by omega, rfl, New.rfl' w, fun _ _ _ h => absurd h (by omega)⟩
    case round =>
      obtain ⟨k, hk, rfl, hr, hq⟩ := hrel
      by_cases hlt : k < a.length
      · have hlt2 : k < b.length := by have := HAB.out; omega
        obtain ⟨bha, oha, rfl, hbha, hcha⟩ := ha.2 (by omega)
        have hrha : ∀ w', New w w' → ∀ k (hk : k < a.length), w'.cell? ⟨bha, oha + k * 11, none⟩ = (itA a[k])[0]? := fun w' hw k hk => (hw.cell (p := ⟨bha, _, none⟩) hbha).trans (hcha k hk 0 (by decide))
        have hsha : ∀ w', New w w' → ∀ k (hk : k < a.length) j, j < 11 → w'.cell? ⟨bha, oha + k * 11 + j, none⟩ = (itA a[k])[j]? := fun w' hw k hk j hj => (hw.cell (p := ⟨bha, _, none⟩) hbha).trans (hcha k hk j hj)
        clear hcha
        obtain ⟨bhb, ohb, rfl, hbhb, hchb⟩ := hb.2 (by omega)
        have hrhb : ∀ w', New w w' → ∀ k (hk : k < b.length), w'.cell? ⟨bhb, ohb + k * 11, none⟩ = (itA b[k])[0]? := fun w' hw k hk => (hw.cell (p := ⟨bhb, _, none⟩) hbhb).trans (hchb k hk 0 (by decide))
        have hshb : ∀ w', New w w' → ∀ k (hk : k < b.length) j, j < 11 → w'.cell? ⟨bhb, ohb + k * 11 + j, none⟩ = (itA b[k])[j]? := fun w' hw k hk j hj => (hw.cell (p := ⟨bhb, _, none⟩) hbhb).trans (hchb k hk j hj)
        clear hchb
        by_cases he : a[k] = b[k]
        · have hd : decide (a[k] = b[k]) = true := by simpa using he
          have HE := Lib.hid he
          clear he
          go_wp2_with fail
          go_quiet (fail)
          go_wp2_with fail
          go_roundw
          case rel => exact ⟨k + 1, by omega, by go_num, below_drewN hr _, fun q h h2 hqk => by
            rcases Nat.lt_succ_iff_lt_or_eq.1 hqk with h3 | rfl
            · exact hq q h h2 h3
            · exact HE⟩
          case measure => simp [intOf]; omega
        · have hd : decide (a[k] = b[k]) = false := by simpa using he
          have HE := Lib.hid he
          clear he
          go_wp2_with fail
          go_quiet (fail)
          go_wp2_with fail
          go_ret
          exact ⟨by rw [decide_eq_false (list_ne_at a b k hlt hlt2 HE.out)]; rfl, below_drewN hr _⟩
      · go_wp2_with fail
        go_ret
        refine ⟨?_, hr⟩
        have : a = b := List.ext_getElem HAB.out fun q h1 h2 => (hq q h1 h2 (by omega)).out
        rw [decide_eq_true this]; rfl
  · have hE1 : ((a.length : Int) == (b.length : Int)) = false := by simp; omega
    have hne : a ≠ b := fun e => hab (by rw [e])
    have HN := Lib.hid hne
    clear hne hab
    go_enter Try.func18, Try.ntmps18
    go_wp2_with fail
    go_ret
    exact ⟨by rw [decide_eq_false HN.out]; rfl, New.rfl' w⟩
end Go.Proofs.Ytkgebhmlogddcaa
