/- Stores of whole elements, of any kind, into rows of the call's own. No condition: helpers alone. -/
import Derived.Test.YtkgebhmlogddcaaSn
import Derived.Test.YtkgebhmlogddcaaSt
namespace Go.Proofs.Ytkgebhmlogddcaa
open Go.RowKit
namespace Kind
variable {α : Type} (K : Kind α)
/-- a row's cells with one element more set -/
def putK (cs : Array Value) (p : Nat) (x : α) : Array Value := (cs.toList.take (p * K.sz) ++ (K.enc x).toList ++ cs.toList.drop (p * K.sz + K.sz)).toArray
theorem putK_size (cs : Array Value) (p : Nat) (x : α) (h : p * K.sz + K.sz ≤ cs.size) : (K.putK cs p x).size = cs.size := by
  have := K.hsz x
  simp [putK, this]; omega
theorem run_storeCells_k (w : World) (g p : Nat) (x : α) (h : rowOk w g = true) (hs : p * K.sz + K.sz ≤ (rowAt w g).size) :
    (storeCells ⟨g, p * K.sz, none⟩ (K.enc x).toList).run Try.prog w = .ok () (w.setRow g (K.putK (rowAt w g) p x)) := by
  obtain ⟨t, ht⟩ := rowOk_get w h
  have h1 := K.hsz x
  have := run_storeCells_at (P := Try.prog) g (p * K.sz) t (K.enc x).toList 0 (rowAt w g) w ht (by rw [Array.length_toList, h1]; omega) (fun v hv => (Array.all_eq_true_iff_forall_mem.1 (K.one x)) v (by simpa using hv))
  simpa [putK, h1] using this
theorem flat_setK (l : List α) (p : Nat) (x : α) (hp : p < l.length) : (K.flat l).take (p * K.sz) ++ (K.enc x).toList ++ (K.flat l).drop (p * K.sz + K.sz) = K.flat (l.set p x) := by
  have hl : l = l.take p ++ [l[p]] ++ l.drop (p + 1) := by simp
  have h1 : (K.flat (l.take p)).length = p * K.sz := by rw [K.flat_length, List.length_take, show min p l.length = p by omega]
  have h2 : (K.flat [l[p]]).length = K.sz := by rw [K.flat_length]; simp
  have h3 : K.flat l = K.flat (l.take p) ++ (K.flat [l[p]] ++ K.flat (l.drop (p + 1))) := by
    rw [← K.flat_append, ← K.flat_append, ← List.append_assoc, ← hl]
  rw [h3, List.take_append_of_le_length (by omega), List.take_of_length_le (by omega), ← h1, List.drop_append, List.drop_of_length_le (by omega), List.nil_append,
    show (K.flat (l.take p)).length + K.sz - (K.flat (l.take p)).length = K.sz by omega, ← h2, List.drop_left, List.set_eq_take_append_cons_drop, if_pos hp, K.flat_append, K.flat_cons, List.append_assoc]
variable {K}
/-- where an own row lies -/
theorem Own.spotK {w : World} {base n c : Nat} {A : Option Addr} {l : List α} (h : K.Own w base (.slice A n c) l) (h0 : 0 < l.length) :
    ∃ g, A = some ⟨g, 0, none⟩ ∧ n = l.length ∧ l.length ≤ c ∧ base ≤ g ∧ rowOk w g = true ∧ (rowAt w g).size = c * K.sz := by
  rcases h.2 with ⟨_, hn⟩ | ⟨g, cap, cur, hv, hb, hg, hnc, _, hcs, _⟩
  · omega
  · injection hv with h1 h2 h3
    subst h1; subst h2; subst h3
    refine ⟨g, rfl, rfl, hnc, hb, ?_, ?_⟩
    · unfold rowOk; rw [hg]; rfl
    · unfold rowAt; rw [hg]; exact hcs
theorem Own.putK {w : World} {base n c g p : Nat} {l : List α} (h : K.Own w base (.slice (some ⟨g, 0, none⟩) n c) l) (x : α) (hp : p < l.length) :
    K.Own (w.setRow g (K.putK (rowAt w g) p x)) base (.slice (some ⟨g, 0, none⟩) n c) (l.set p x) := by
  rcases h.2 with ⟨hv, _⟩ | ⟨g', cap, cur, hv, hb, hg, hnc, hcm, hcs, htake⟩
  · cases hv
  · injection hv with h1 h2 h3
    injection h1 with h1
    injection h1 with h1
    subst h1; subst h2; subst h3
    have hr : rowAt w g = cur := by unfold rowAt; rw [hg]
    have hlt : p * K.sz + K.sz ≤ l.length * K.sz := by
      have : (p + 1) * K.sz ≤ l.length * K.sz := Nat.mul_le_mul_right _ hp
      rw [Nat.add_mul] at this; omega
    have hlc : l.length * K.sz ≤ c * K.sz := Nat.mul_le_mul_right _ hnc
    unfold Own
    rw [List.length_set]
    refine ⟨by rw [K.flat_length, List.length_set], .inr ⟨g, c, K.putK cur p x, rfl, hb, by rw [hr]; exact setRow_heap w g cur _ _ _ hg, hnc, hcm, by rw [putK_size _ _ _ _ (by omega)]; exact hcs, ?_⟩⟩
    have h11 : (K.enc x).toList.length = K.sz := by rw [Array.length_toList, K.hsz]
    show ((cur.toList.take (p * K.sz) ++ (K.enc x).toList ++ cur.toList.drop (p * K.sz + K.sz)).toArray.toList).take (l.length * K.sz) = _
    have := seg_take cur.toList (K.enc x).toList (p * K.sz) (l.length * K.sz) (by rw [h11]; omega) (by have e : cur.toList.length = cur.size := Array.length_toList; omega)
    rw [h11, htake] at this
    rw [this, K.flat_setK l p x hp]
/-- its head alone -/
theorem Own.head {w : World} {base n c i : Nat} {A : Option Addr} {l : List α} (h : K.Own w base (.slice A n c) l) (hi : i ≤ l.length) : K.Own w base (.slice A i c) (l.take i) := by
  rcases h.2 with ⟨hv, hn⟩ | ⟨g, cap, cur, hv, hb, hg, hnc, hcm, hcs, htake⟩
  · injection hv with h1 h2 h3
    subst h1; subst h3
    have hl : l = [] := List.eq_nil_of_length_eq_zero hn
    subst hl
    have : i = 0 := by simpa using hi
    subst this
    exact Own.nil
  · injection hv with h1 h2 h3
    subst h1; subst h2; subst h3
    have hlen : (l.take i).length = i := by rw [List.length_take]; omega
    unfold Own
    rw [hlen]
    refine ⟨by rw [K.flat_length, hlen], .inr ⟨g, c, cur, rfl, hb, hg, by omega, hcm, hcs, ?_⟩⟩
    have hle : i * K.sz ≤ l.length * K.sz := Nat.mul_le_mul_right _ hi
    have e1 : cur.toList.take (i * K.sz) = (K.flat l).take (i * K.sz) := by rw [← htake, List.take_take, Nat.min_eq_left hle]
    have e2 : K.flat l = K.flat (l.take i) ++ K.flat (l.drop i) := by rw [← K.flat_append, List.take_append_drop]
    rw [e1, e2, List.take_append_of_le_length (by rw [K.flat_length, hlen]; omega), List.take_of_length_le (by rw [K.flat_length, hlen]; omega)]
end Kind
end Go.Proofs.Ytkgebhmlogddcaa
