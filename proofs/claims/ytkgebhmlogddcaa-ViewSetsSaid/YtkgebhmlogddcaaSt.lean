/- Stores of whole items into rows of the call's own. No condition: helpers alone. -/
import Derived.Test.YtkgebhmlogddcaaIt
import Derived.Laws.CopyRow
namespace Go.Proofs.Ytkgebhmlogddcaa
open Go.RowKit

def putI (cs : Array Value) (p : Nat) (x : It) : Array Value := (cs.toList.take (p * 11) ++ (itA x).toList ++ cs.toList.drop (p * 11 + 11)).toArray
theorem putI_size (cs : Array Value) (p : Nat) (x : It) (h : p * 11 + 11 ≤ cs.size) : (putI cs p x).size = cs.size := by
  simp [putI, it_size]; omega
theorem run_storeCells_itp (w : World) (g p : Nat) (x : It) (h : rowOk w g = true) (hs : p * 11 + 11 ≤ (rowAt w g).size) :
    (storeCells ⟨g, p * 11, none⟩ (itA x).toList).run Try.prog w = .ok () (w.setRow g (putI (rowAt w g) p x)) := by
  obtain ⟨t, ht⟩ := rowOk_get w h
  have := run_storeCells_at (P := Try.prog) g (p * 11) t (itA x).toList 0 (rowAt w g) w ht (by rw [Array.length_toList, it_size]; omega) (fun v hv => (Array.all_eq_true_iff_forall_mem.1 (it_one x)) v (by simpa using hv))
  simpa [putI, it_size] using this
theorem seg_take (c e : List Value) (a N : Nat) (h : a + e.length ≤ N) (hN : N ≤ c.length) : (c.take a ++ e ++ c.drop (a + e.length)).take N = (c.take N).take a ++ e ++ (c.take N).drop (a + e.length) := by
  rw [List.append_assoc, List.take_append, List.take_append, List.take_take, List.take_take, List.length_take, List.drop_take, List.append_assoc]
  rw [show min N a = a by omega, show min a N = a by omega, show min a c.length = a by omega, List.take_of_length_le (l := e) (by omega), show N - a - e.length = N - (a + e.length) by omega]
theorem flat_set (l : List It) (p : Nat) (x : It) (hp : p < l.length) : (KI.flat l).take (p * 11) ++ (itA x).toList ++ (KI.flat l).drop (p * 11 + 11) = KI.flat (l.set p x) := by
  have hl : l = l.take p ++ [l[p]] ++ l.drop (p + 1) := by simp
  have h1 : (KI.flat (l.take p)).length = p * 11 := by rw [KI.flat_length, List.length_take, KI_sz, show min p l.length = p by omega]
  have h2 : (KI.flat [l[p]]).length = 11 := by rw [KI.flat_length, KI_sz]; rfl
  have h3 : KI.flat l = KI.flat (l.take p) ++ (KI.flat [l[p]] ++ KI.flat (l.drop (p + 1))) := by
    rw [← KI.flat_append, ← KI.flat_append, ← List.append_assoc, ← hl]
  rw [h3, List.take_append_of_le_length (by omega), List.take_of_length_le (by omega), ← h1, List.drop_append, List.drop_of_length_le (by omega), List.nil_append,
    show (KI.flat (l.take p)).length + 11 - (KI.flat (l.take p)).length = 11 by omega, ← h2, List.drop_left, List.set_eq_take_append_cons_drop, if_pos hp, KI.flat_append, KI.flat_cons, List.append_assoc]
  rfl

/-- where an own row lies -/
theorem Kind.Own.spot {w : World} {base n c : Nat} {A : Option Addr} {l : List It} (h : KI.Own w base (.slice A n c) l) (h0 : 0 < l.length) :
    ∃ g, A = some ⟨g, 0, none⟩ ∧ n = l.length ∧ base ≤ g ∧ rowOk w g = true ∧ l.length * 11 ≤ (rowAt w g).size := by
  rcases h.2 with ⟨_, hn⟩ | ⟨g, cap, cur, hv, hb, hg, hnc, _, hcs, _⟩
  · omega
  · injection hv with h1 h2 h3
    subst h1; subst h2
    refine ⟨g, rfl, rfl, hb, ?_, ?_⟩
    · unfold rowOk; rw [hg]; rfl
    · unfold rowAt; rw [hg]
      have : cur.size = cap * 11 := hcs
      simp only [this]
      exact Nat.mul_le_mul_right _ hnc
theorem Kind.Own.put {w : World} {base n c g p : Nat} {l : List It} (h : KI.Own w base (.slice (some ⟨g, 0, none⟩) n c) l) (x : It) (hp : p < l.length) :
    KI.Own (w.setRow g (putI (rowAt w g) p x)) base (.slice (some ⟨g, 0, none⟩) n c) (l.set p x) := by
  rcases h.2 with ⟨hv, _⟩ | ⟨g', cap, cur, hv, hb, hg, hnc, hcm, hcs, htake⟩
  · cases hv
  · injection hv with h1 h2 h3
    injection h1 with h1
    injection h1 with h1
    subst h1; subst h2; subst h3
    have hcs' : cur.size = c * 11 := hcs
    have hr : rowAt w g = cur := by unfold rowAt; rw [hg]
    have hlt : p * 11 + 11 ≤ l.length * 11 := by omega
    have hlc : l.length * 11 ≤ c * 11 := Nat.mul_le_mul_right _ hnc
    unfold Kind.Own
    rw [List.length_set]
    refine ⟨by rw [KI.flat_length, List.length_set], .inr ⟨g, c, putI cur p x, rfl, hb, by rw [hr]; exact setRow_heap w g cur _ _ _ hg, hnc, hcm, by rw [putI_size _ _ _ (by omega)]; exact hcs, ?_⟩⟩
    have ht : cur.toList.take (l.length * 11) = KI.flat l := htake
    have h11 : (itA x).toList.length = 11 := rfl
    show ((cur.toList.take (p * 11) ++ (itA x).toList ++ cur.toList.drop (p * 11 + 11)).toArray.toList).take (l.length * 11) = _
    have := seg_take cur.toList (itA x).toList (p * 11) (l.length * 11) (by rw [h11]; omega) (by have e : cur.toList.length = cur.size := Array.length_toList; omega)
    rw [h11, ht] at this
    rw [this, flat_set l p x hp]
end Go.Proofs.Ytkgebhmlogddcaa
