/- copy into a row of the call's own, elements of any kind. No condition: helpers alone. -/
import Derived.Test.YtkgebhmlogddcaaStK
import Derived.Test.YtkgebhmlogddcaaItemLaw
namespace Go.Proofs.Ytkgebhmlogddcaa
open Go.RowKit
namespace Kind
variable {α : Type} {K : Kind α}
theorem flat_splice (m s : List α) (i : Nat) (hi : i + s.length ≤ m.length) : (K.flat m).take (i * K.sz) ++ K.flat s ++ (K.flat m).drop (i * K.sz + s.length * K.sz) = K.flat (m.take i ++ s ++ m.drop (i + s.length)) := by
  have h1 : (K.flat (m.take i)).length = i * K.sz := by rw [K.flat_length, List.length_take, show min i m.length = i by omega]
  have h2 : (K.flat (m.take (i + s.length))).length = i * K.sz + s.length * K.sz := by rw [K.flat_length, List.length_take, show min (i + s.length) m.length = i + s.length by omega, Nat.add_mul]
  have e1 : K.flat m = K.flat (m.take i) ++ K.flat (m.drop i) := by rw [← K.flat_append, List.take_append_drop]
  have e2 : K.flat m = K.flat (m.take (i + s.length)) ++ K.flat (m.drop (i + s.length)) := by rw [← K.flat_append, List.take_append_drop]
  have f1 : (K.flat m).take (i * K.sz) = K.flat (m.take i) := by rw [e1, List.take_append_of_le_length (by omega), List.take_of_length_le (by omega)]
  have f2 : (K.flat m).drop (i * K.sz + s.length * K.sz) = K.flat (m.drop (i + s.length)) := by
    rw [e2, List.drop_append, List.drop_of_length_le (by omega), List.nil_append, h2]; simp
  rw [f1, f2, K.flat_append, K.flat_append]
theorem run_copyK {w : World} {base g n c i dn dc sn sc k : Nat} {sp : Option Addr} {m src : List α} (ty : TypeId) (hown : K.Own w base (.slice (some ⟨g, 0, none⟩) n c) m) (hr : K.Rd w sp sn src) (hk : k = Nat.min sn dn) (hfit : i + k ≤ m.length) :
    ∃ w', (Builtin.copy_ #[K.t, K.t] ty #[.slice (some ⟨g, i * K.sz, none⟩) dn dc, .slice sp sn sc]).run Try.prog w = .ok (goInt k) w' ∧ K.Own w' base (.slice (some ⟨g, 0, none⟩) n c) (m.take i ++ src.take k ++ m.drop (i + k)) ∧ w.grownBy w' (some g) := by
  have hsl := hr.1
  have hkn : k ≤ sn := by rw [hk]; exact Nat.min_le_left _ _
  have htl : (src.take k).length = k := by rw [List.length_take]; omega
  cases sp with
  | none =>
    have hs0 : src = [] := by
      cases src with
      | nil => rfl
      | cons x m => obtain ⟨b, o, h, _⟩ := hr.2 (by simp at hsl; omega); cases h
    subst hs0
    have h0 : sn = 0 := by simpa using hsl.symm
    subst h0
    have k0 : k = 0 := by omega
    subst k0
    refine ⟨w, ?_, by simpa using hown, ⟨rfl, rfl, rfl, Nat.le_refl _, fun _ _ _ => rfl⟩⟩
    simp [Builtin.copy_, run_underlying K.ht, sizeOf, typeInfo, K.hi, Builtin.lenOf, Builtin.firstCells, storeCells]
  | some ad =>
    rcases hown.2 with ⟨hv, _⟩ | ⟨g', cap, cur, hv, hb, hg, hnc, hcm, hcs, htake⟩
    · cases hv
    · injection hv with h1 h2 h3
      injection h1 with h1
      injection h1 with h1
      subst h1; subst h2; subst h3
      have hkd : k * K.sz ≤ m.length * K.sz := Nat.mul_le_mul_right _ (by omega)
      have hle : m.length * K.sz ≤ c * K.sz := Nat.mul_le_mul_right _ hnc
      have hik : i * K.sz + k * K.sz ≤ m.length * K.sz := by rw [← Nat.add_mul]; exact Nat.mul_le_mul_right _ hfit
      have hfl : (K.flat (src.take k)).length = k * K.sz := by rw [K.flat_length, htl]
      have hsrc : ∀ j u, (K.flat (src.take k))[j]? = some u → w.cell? (ad.add j) = some u := by
        intro j u hu
        have hj : j < k * K.sz := by rw [← hfl]; exact (List.getElem?_eq_some_iff.1 hu).1
        have hk0 : 0 < k := by
          rcases Nat.eq_zero_or_pos k with h | h
          · subst h; simp at hj
          · exact h
        obtain ⟨b, o, hh, hbb, hcell⟩ := hr.2 (by omega)
        injection hh with hh
        subst hh
        have hdm : j / K.sz < k := (Nat.div_lt_iff_lt_mul K.pos).2 hj
        have hmod : j % K.sz < K.sz := Nat.mod_lt _ K.pos
        have he : j / K.sz * K.sz + j % K.sz = j := by rw [Nat.mul_comm]; exact Nat.div_add_mod j K.sz
        have hc2 := hcell (j / K.sz) (by omega) (j % K.sz) hmod
        have hg2 := K.flat_get (src.take k) (j / K.sz) (j % K.sz) (by omega) hmod
        rw [he, hu, List.getElem_take] at hg2
        rw [Nat.add_assoc, he, ← hg2] at hc2
        have hadd : (⟨b, o, none⟩ : Addr).add j = ⟨b, o + j, none⟩ := by unfold Addr.add; split <;> simp_all
        rw [hadd]; exact hc2
      have hfc := run_firstCells_some (P := Try.prog) w K.sz k ad sn sc (K.flat (src.take k)) hfl hsrc
      have hst := run_storeCells_at (P := Try.prog) g (i * K.sz) K.e (K.flat (src.take k)) 0 cur w hg (by rw [hfl, hcs]; omega) (K.flat_one' _)
      rw [Nat.add_zero] at hst
      obtain ⟨cs2, hcs2, hst⟩ : ∃ cs2 : Array Value, cs2.toList = cur.toList.take (i * K.sz) ++ K.flat (src.take k) ++ cur.toList.drop (i * K.sz + (K.flat (src.take k)).length) ∧
          (storeCells ⟨g, i * K.sz, none⟩ (K.flat (src.take k))).run Try.prog w = .ok () (w.setRow g cs2) := ⟨_, List.toList_toArray, hst⟩
      have hcl : cur.toList.length = c * K.sz := by rw [Array.length_toList, hcs]
      have hll : (m.take i ++ src.take k ++ m.drop (i + k)).length = m.length := by simp only [List.length_append, List.length_take, List.length_drop]; omega
      refine ⟨w.setRow g cs2, ?_, ⟨?_, .inr ⟨g, c, cs2, ?_, hb, setRow_heap w g cur _ _ _ hg, ?_, hcm, ?_, ?_⟩⟩, grown_setRow w g _⟩
      · rw [← K.hs] at hfc
        simp [Builtin.copy_, run_underlying K.ht, sizeOf, typeInfo, K.hi, Builtin.lenOf, ← hk, hfc, hst]
      · rw [K.flat_length]
      · rw [hll]
      · rw [hll]; exact hnc
      · rw [← Array.length_toList, hcs2]
        simp only [List.length_append, List.length_take, List.length_drop, hfl, hcl]
        omega
      · rw [hll, hcs2, hfl]
        have hsg := seg_take cur.toList (K.flat (src.take k)) (i * K.sz) (m.length * K.sz) (by rw [hfl]; exact hik) (by rw [hcl]; exact hle)
        rw [hfl] at hsg
        rw [hsg, htake]
        have hsp := flat_splice (K := K) m (src.take k) i (by omega)
        rw [htl] at hsp
        exact hsp
end Kind
end Go.Proofs.Ytkgebhmlogddcaa
