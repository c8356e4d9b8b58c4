/- Making room in a row: append of zero elements, a copy one place further. No condition: helpers alone. -/
import Derived.Test.YtkgebhmlogddcaaCopy
import Derived.Lib.AppendZerosOnto
import Derived.Lib.Overlaps
namespace Go.Proofs.Ytkgebhmlogddcaa
open Go.RowKit
namespace Kind
variable {α : Type} {K : Kind α}
theorem flat_zero (zx : α) (hz : K.z.cells = K.enc zx) (k : Nat) : (Builtin.zeroCells K.z.cells k).toList = K.flat (List.replicate k zx) := by
  have hsz := K.hsz zx
  have hp := K.pos
  apply List.ext_getElem?
  intro i
  by_cases h : i < k * K.sz
  · have hdm : i / K.sz < k := (Nat.div_lt_iff_lt_mul hp).2 h
    have hmod : i % K.sz < K.sz := Nat.mod_lt _ hp
    have he : i / K.sz * K.sz + i % K.sz = i := by rw [Nat.mul_comm]; exact Nat.div_add_mod i K.sz
    have h2 := K.flat_get (List.replicate k zx) (i / K.sz) (i % K.sz) (by simpa using hdm) hmod
    rw [he, List.getElem_replicate] at h2
    rw [h2, hz]
    simp only [Builtin.zeroCells, Array.toList_map, List.getElem?_map, hsz, Array.toList_range, List.getElem?_range h, Option.map_some]
    rw [Array.getElem?_eq_getElem (by omega), getElem!_pos _ _ (by omega)]
  · rw [List.getElem?_eq_none (by rw [Array.length_toList, size_zeroCells, K.hzs]; omega), List.getElem?_eq_none (by rw [K.flat_length, List.length_replicate]; omega)]
theorem run_append_zerosK {w : World} {base g n c i k : Nat} {l : List α} (zx : α) (hzx : K.z.cells = K.enc zx) (tn ty : TypeId) (kq kn : IntKind) (htn : Try.prog.underlying tn = some (.int kn))
    (hown : K.Own w base (.slice (some ⟨g, 0, none⟩) n c) l) (hi : i ≤ l.length) (h0 : 0 < k) (hc : c < i + k) (h63 : i + k ≤ 1048576) (hbytes : K.bytes ≤ 4096) :
    ∃ c' w', (Builtin.append_ #[K.t, tn] ty #[.slice (some ⟨g, 0, none⟩) i c, .int kq k]).run Try.prog w = .ok (.slice (some ⟨w.heap.size, 0, none⟩) (i + k) c') w' ∧ K.Own w' w.heap.size (.slice (some ⟨w.heap.size, 0, none⟩) (i + k) c') (l.take i ++ List.replicate k zx) ∧ New w w' ∧ i + k ≤ c' ∧ c' ≤ maxLen := by
  rcases hown.2 with ⟨hv, _⟩ | ⟨g', cap, cur, hv, hb, hg, hnc, hcm, hcs, htake⟩
  · cases hv
  · injection hv with h1 h2 h3
    injection h1 with h1
    injection h1 with h1
    subst h1; subst h2; subst h3
    have hlen : (l.take i).length = i := by rw [List.length_take]; omega
    have hfl : (K.flat (l.take i)).length = i * K.sz := by rw [K.flat_length, hlen]
    have hle : i * K.sz ≤ l.length * K.sz := Nat.mul_le_mul_right _ hi
    have hold : (Builtin.firstCells K.i.size i (.slice (some ⟨g, 0, none⟩) i c)).run Try.prog w.drew = .ok (K.flat (l.take i)).toArray w.drew := by
      rw [K.hs]
      refine run_firstCells_some w.drew K.sz i ⟨g, 0, none⟩ i c (K.flat (l.take i)) hfl (fun j v hj => ?_)
      have hadd : (⟨g, 0, none⟩ : Addr).add j = ⟨g, j, none⟩ := by unfold Addr.add; split <;> simp_all
      have hji : j < i * K.sz := by rw [← hfl]; exact (List.getElem?_eq_some_iff.1 hj).1
      rw [hadd, show w.drew.cell? ⟨g, j, none⟩ = w.cell? ⟨g, j, none⟩ from rfl, cell_of_row w g j cur K.e (0, 0) hg, ← hj]
      have e1 : cur.toList.take (i * K.sz) = K.flat (l.take i) := by
        have e2 : K.flat l = K.flat (l.take i) ++ K.flat (l.drop i) := by rw [← K.flat_append, List.take_append_drop]
        have e3 : cur.toList.take (i * K.sz) = (K.flat l).take (i * K.sz) := by rw [← htake, List.take_take, Nat.min_eq_left hle]
        rw [e3, e2, List.take_append_of_le_length (by omega), List.take_of_length_le (by omega)]
      rw [← e1, List.getElem?_take, if_pos hji]; simp
    have hb1 : (i + k) * K.i.bytes ≤ 1048576 * 4096 := Nat.mul_le_mul h63 (by rw [K.hb]; exact hbytes)
    have hb2 : k * K.i.bytes ≤ (i + k) * K.i.bytes := Nat.mul_le_mul_right _ (by omega)
    have hrun := Lib.run_append_grow_zeros w K.t tn ty K.e K.i K.z kq kn K.ht htn K.hi K.hz (some ⟨g, 0, none⟩) i c (K.flat (l.take i)) hold k h0 (by rw [K.hs]; exact K.pos) hc (by omega) (by omega) (growslice_fits (by omega) (by omega))
    have hge := grownCap_ge w (i + k) c K.e
    have hcm2 : grownCap w (i + k) c K.e ≤ maxLen := grownCap_le_maxLen w (i + k) c K.e (by simp only [maxLen]; omega)
    refine ⟨_, _, hrun, ⟨?_, .inr ⟨w.heap.size, _, _, ?_, Nat.le_refl _, heap_alloc_new w.drew _, ?_, hcm2, ?_, ?_⟩⟩, (New.rfl' w).drew'.alloc' _, hge, hcm2⟩
    · rw [K.flat_length]
    · simp only [List.length_append, hlen, List.length_replicate]
    · simp only [List.length_append, hlen, List.length_replicate]; exact hge
    · have e9 : i * K.sz + k * K.sz + (grownCap w (i + k) c K.e - (i + k)) * K.sz = grownCap w (i + k) c K.e * K.sz := by
        rw [← Nat.add_mul, ← Nat.add_mul, Nat.add_sub_cancel' hge]
      simp only [Array.size_append, List.size_toArray, size_zeroCells, K.hzs, hfl]
      exact e9
    · simp only [Array.toList_append, flat_zero zx hzx]
      rw [← K.flat_append, List.take_append_of_le_length (by rw [K.flat_length]; exact Nat.le_refl _), List.take_of_length_le (by rw [K.flat_length]; exact Nat.le_refl _)]
/-- a copy of what stands from i on, one place further, where there is room -/
theorem run_shiftK {w : World} {base g n c i dc sc : Nat} {l : List α} (ty : TypeId) (hown : K.Own w base (.slice (some ⟨g, 0, none⟩) n c) l) (hi : i < l.length) (hroom : l.length + 1 ≤ c) :
    ∃ w', (Builtin.copy_ #[K.t, K.t] ty #[.slice (some ⟨g, (i + 1) * K.sz, none⟩) (l.length - i) dc, .slice (some ⟨g, i * K.sz, none⟩) (l.length + 1 - i) sc]).run Try.prog w = .ok (goInt (l.length - i : Nat)) w' ∧
      K.Own w' base (.slice (some ⟨g, 0, none⟩) (l.length + 1) c) (l.take (i + 1) ++ l.drop i) ∧ w.grownBy w' (some g) := by
  rcases hown.2 with ⟨hv, _⟩ | ⟨g', cap, cur, hv, hb, hg, hnc, hcm, hcs, htake⟩
  · cases hv
  · injection hv with h1 h2 h3
    injection h1 with h1
    injection h1 with h1
    subst h1; subst h2; subst h3
    have hlc : (l.length + 1) * K.sz ≤ c * K.sz := Nat.mul_le_mul_right _ hroom
    have hdl : (l.drop i).length = l.length - i := by simp
    have hfl : (K.flat (l.drop i)).length = (l.length - i) * K.sz := by rw [K.flat_length, hdl]
    have hsum : i * K.sz + (l.length - i) * K.sz = l.length * K.sz := by rw [← Nat.add_mul]; congr 1; omega
    have h1s : (i + 1) * K.sz = i * K.sz + K.sz := by rw [Nat.add_mul]; omega
    have h1l : (l.length + 1) * K.sz = l.length * K.sz + K.sz := by rw [Nat.add_mul]; omega
    have e2 : K.flat l = K.flat (l.take i) ++ K.flat (l.drop i) := by rw [← K.flat_append, List.take_append_drop]
    have hti : (K.flat (l.take i)).length = i * K.sz := by rw [K.flat_length, List.length_take, Nat.min_eq_left (by omega)]
    have hsrc : ∀ j u, (K.flat (l.drop i))[j]? = some u → w.cell? ((⟨g, i * K.sz, none⟩ : Addr).add j) = some u := by
      intro j u hu
      have hj : j < (l.length - i) * K.sz := by rw [← hfl]; exact (List.getElem?_eq_some_iff.1 hu).1
      have hadd : (⟨g, i * K.sz, none⟩ : Addr).add j = ⟨g, i * K.sz + j, none⟩ := by unfold Addr.add; split <;> simp_all
      rw [hadd, cell_of_row w g _ cur K.e (0, 0) hg, ← hu]
      have e3 : (K.flat l)[i * K.sz + j]? = (K.flat (l.drop i))[j]? := by
        rw [e2, List.getElem?_append_right (by omega), hti]; congr 1; omega
      rw [← e3, ← htake, List.getElem?_take, if_pos (by omega)]; simp
    have hfc := run_firstCells_some (P := Try.prog) w K.sz (l.length - i) ⟨g, i * K.sz, none⟩ (l.length + 1 - i) sc (K.flat (l.drop i)) hfl hsrc
    have hst := run_storeCells_at (P := Try.prog) g ((i + 1) * K.sz) K.e (K.flat (l.drop i)) 0 cur w hg (by rw [hfl, hcs]; omega) (K.flat_one' _)
    rw [Nat.add_zero] at hst
    obtain ⟨cs2, hcs2, hst⟩ : ∃ cs2 : Array Value, cs2.toList = cur.toList.take ((i + 1) * K.sz) ++ K.flat (l.drop i) ++ cur.toList.drop ((i + 1) * K.sz + (K.flat (l.drop i)).length) ∧
        (storeCells ⟨g, (i + 1) * K.sz, none⟩ (K.flat (l.drop i))).run Try.prog w = .ok () (w.setRow g cs2) := ⟨_, List.toList_toArray, hst⟩
    have hcl : cur.toList.length = c * K.sz := by rw [Array.length_toList, hcs]
    have hll : (l.take (i + 1) ++ l.drop i).length = l.length + 1 := by simp only [List.length_append, List.length_take, List.length_drop]; omega
    have hmin : Nat.min (l.length + 1 - i) (l.length - i) = l.length - i := Nat.min_eq_right (by omega)
    refine ⟨w.setRow g cs2, ?_, ⟨?_, .inr ⟨g, c, cs2, ?_, hb, setRow_heap w g cur _ _ _ hg, ?_, hcm, ?_, ?_⟩⟩, grown_setRow w g _⟩
    · have hfc2 : (Builtin.firstCells K.i.size (l.length - i) (.slice (some ⟨g, i * K.sz, none⟩) (l.length + 1 - i) sc)).run Try.prog w = .ok (K.flat (l.drop i)).toArray w := by rw [K.hs]; exact hfc
      simp [Builtin.copy_, run_underlying K.ht, sizeOf, typeInfo, K.hi, Builtin.lenOf, hmin, hfc2, hst]
    · rw [K.flat_length]
    · rw [hll]
    · rw [hll]; exact hroom
    · rw [← Array.length_toList, hcs2]
      simp only [List.length_append, List.length_take, List.length_drop, hfl, hcl]
      omega
    · have hq : cur.toList.take ((i + 1) * K.sz) = K.flat (l.take (i + 1)) := by
        have e3 : cur.toList.take ((i + 1) * K.sz) = (K.flat l).take ((i + 1) * K.sz) := by rw [← htake, List.take_take, Nat.min_eq_left (Nat.mul_le_mul_right _ hi)]
        have e4 : K.flat l = K.flat (l.take (i + 1)) ++ K.flat (l.drop (i + 1)) := by rw [← K.flat_append, List.take_append_drop]
        have e5 : (K.flat (l.take (i + 1))).length = (i + 1) * K.sz := by rw [K.flat_length, List.length_take, Nat.min_eq_left (by omega)]
        rw [e3, e4, List.take_append_of_le_length (by omega), List.take_of_length_le (by omega)]
      rw [hll, hcs2, hq, ← K.flat_append, List.take_append_of_le_length (by rw [K.flat_length, hll]; exact Nat.le_refl _), List.take_of_length_le (by rw [K.flat_length, hll]; exact Nat.le_refl _)]
end Kind
end Go.Proofs.Ytkgebhmlogddcaa
