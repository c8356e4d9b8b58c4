/- clear of the end of a row of the call's own. No condition: helpers alone. -/
import Derived.Test.YtkgebhmlogddcaaStK
import Derived.Test.YtkgebhmlogddcaaItemLaw
namespace Go.Proofs.Ytkgebhmlogddcaa
open Go.RowKit
namespace Kind
variable {α : Type} {K : Kind α}
theorem zeroCells_one {z : Array Value} (h : ∀ u ∈ z, u.oneCell' = true) (n : Nat) : ∀ u ∈ (Builtin.zeroCells z n).toList, u.oneCell' = true := by
  intro u hu
  simp only [Builtin.zeroCells, Array.toList_map, List.mem_map] at hu
  obtain ⟨i, hi, rfl⟩ := hu
  have hpos : 0 < z.size := by
    simp at hi
    exact Nat.pos_of_ne_zero fun e => by rw [e] at hi; simp at hi
  have hlt : i % z.size < z.size := Nat.mod_lt _ hpos
  rw [getElem!_pos z _ hlt]
  exact h _ (Array.getElem_mem hlt)
theorem run_clear {w : World} {base g n c i q e : Nat} {l : List α} (ty : TypeId) (hown : K.Own w base (.slice (some ⟨g, 0, none⟩) n c) l) (hi : i < l.length) (hq : q = l.length - i) (hz1 : ∀ u ∈ K.z.cells, u.oneCell' = true) :
    ∃ w', (Builtin.clear_ #[K.t] ty #[.slice (some ⟨g, i * K.sz, none⟩) q e]).run Try.prog w = .ok (.tuple #[]) w' ∧ K.Own w' base (.slice (some ⟨g, 0, none⟩) i c) (l.take i) ∧ w.grownBy w' (some g) := by
  rcases hown.2 with ⟨hv, _⟩ | ⟨g', cap, cur, hv, hb, hg, hnc, hcm, hcs, htake⟩
  · cases hv
  · injection hv with h1 h2 h3
    injection h1 with h1
    injection h1 with h1
    subst h1; subst h2; subst h3
    have hle : l.length * K.sz ≤ c * K.sz := Nat.mul_le_mul_right _ hnc
    have hqs : i * K.sz + q * K.sz = l.length * K.sz := by rw [← Nat.add_mul, hq]; congr 1; omega
    have hzs : (Builtin.zeroCells K.z.cells q).toList.length = q * K.sz := by rw [Array.length_toList, size_zeroCells, K.hzs]
    have hst := run_storeCells_at (P := Try.prog) g (i * K.sz) K.e (Builtin.zeroCells K.z.cells q).toList 0 cur w hg (by rw [hzs, hcs]; omega) (zeroCells_one hz1 q)
    rw [Nat.add_zero] at hst
    obtain ⟨cs2, hcs2, hst⟩ : ∃ cs2 : Array Value, cs2.toList = cur.toList.take (i * K.sz) ++ (Builtin.zeroCells K.z.cells q).toList ++ cur.toList.drop (i * K.sz + (Builtin.zeroCells K.z.cells q).toList.length) ∧
        (storeCells ⟨g, i * K.sz, none⟩ (Builtin.zeroCells K.z.cells q).toList).run Try.prog w = .ok () (w.setRow g cs2) := ⟨_, List.toList_toArray, hst⟩
    have hcl : cur.toList.length = c * K.sz := by rw [Array.length_toList, hcs]
    have hlen : (l.take i).length = i := by rw [List.length_take]; omega
    refine ⟨w.setRow g cs2, ?_, ⟨?_, .inr ⟨g, c, cs2, ?_, hb, setRow_heap w g cur _ _ _ hg, ?_, hcm, ?_, ?_⟩⟩, grown_setRow w g _⟩
    · obtain ⟨m, rfl⟩ : ∃ m, q = m + 1 := ⟨q - 1, by omega⟩
      simp only [Builtin.clear_]
      simp [run_underlying K.ht, zeroValue, typeInfo, K.hi, K.hz, hst]
    · rw [K.flat_length]
    · rw [hlen]
    · omega
    · rw [← Array.length_toList, hcs2]
      simp only [List.length_append, List.length_take, List.length_drop, hzs, hcl]
      omega
    · have hil : i * K.sz ≤ l.length * K.sz := by omega
      rw [hlen, hcs2, List.append_assoc, List.take_append_of_le_length (by rw [List.length_take, hcl]; omega), List.take_take, Nat.min_self]
      have e1 : cur.toList.take (i * K.sz) = (K.flat l).take (i * K.sz) := by rw [← htake, List.take_take, Nat.min_eq_left hil]
      have e2 : K.flat l = K.flat (l.take i) ++ K.flat (l.drop i) := by rw [← K.flat_append, List.take_append_drop]
      rw [e1, e2, List.take_append_of_le_length (by rw [K.flat_length, hlen]; omega), List.take_of_length_le (by rw [K.flat_length, hlen]; omega)]
end Kind
end Go.Proofs.Ytkgebhmlogddcaa
