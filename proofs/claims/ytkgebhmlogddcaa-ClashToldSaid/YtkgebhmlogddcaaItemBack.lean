/- The law ItemBack: what is answered may be, is found, and is as ahead of it when dropped. -/
import Derived.Test.YtkgebhmlogddcaaItemDoes
namespace Go.Proofs.Ytkgebhmlogddcaa
open Go.RowKit
set_option linter.unusedSimpArgs false
attribute [local go_sem] rowAt_alloc_at rowAt_alloc_past rowOk_alloc_at rowOk_alloc_past rowAt_drew rowOk_drew setRow_alloc_at setRow_alloc_past rowAt_setRow rowAt_setRow_far rowOk_setRow cell_rowOk frozen_rowOk setCell_rowOk setRow_setRow con_fold con_get con_size con_set set_all none8_cells equalIn_con storeCells_con
attribute [local go_sem] it_size it_0 it_1 it_2 it_3 it_4 it_5 it_6 it_7 it_8 it_9 it_10 it_set0 it_set1 it_set2 it_fold it_zero it_eta it_fill run_storeCells_it
attribute [local go_sem high] equalIn_it
attribute [local go_sem] eqg_it

/-! ### the plain law -/
def LtI (x y : It) : Prop := x.1 < y.1
theorem ris_pw (l : List It) : ∀ a : Int, risI a l = true ↔ (∀ x ∈ l, a < x.1 ∧ x.2.1 ≠ 0) ∧ l.Pairwise LtI := by
  induction l with
  | nil => intro a; simp [risI]
  | cons x r ih =>
    intro a
    simp only [risI, Bool.and_eq_true, decide_eq_true_eq, bne_iff_ne, ih, List.pairwise_cons, List.mem_cons]
    constructor
    · rintro ⟨⟨h1, h2⟩, h3, h4⟩
      refine ⟨?_, fun y hy => (h3 y hy).1, h4⟩
      rintro y (rfl | hy)
      · exact ⟨h1, h2⟩
      · have := h3 y hy; exact ⟨by omega, this.2⟩
    · rintro ⟨h1, h2, h3⟩
      exact ⟨h1 x (Or.inl rfl), fun y hy => ⟨h2 y hy, (h1 y (Or.inr hy)).2⟩, h3⟩
theorem may_iff (l : List It) : mayI l = true ↔ l.length ≤ 40 ∧ risI 0 l = true := by simp [mayI]

def MidI (A B : List It) (x : It) : Prop := (∀ a ∈ A, a.1 < x.1) ∧ (∀ b ∈ B, x.1 < b.1)
theorem mid_pos {A B : List It} {x : It} (h : MidI A B x) : posI (A ++ [x] ++ B) x.1 = A.length := by
  unfold posI
  rw [List.append_assoc, List.takeWhile_append_of_pos (by intro a ha; simpa using h.1 a ha)]
  simp
theorem mid_find {A B : List It} {x : It} (h : MidI A B x) : (A ++ [x] ++ B).find? (fun y => y.1 == x.1) = some x := by
  have : A.find? (fun y => y.1 == x.1) = none := by
    rw [List.find?_eq_none]
    intro a ha
    have := h.1 a ha
    simp; omega
  rw [List.append_assoc, List.find?_append, this]
  simp
theorem mid_has (A B : List It) (x : It) : hasI (A ++ [x] ++ B) x.1 = true := by simp [hasI]
theorem mid_ris {A B : List It} {x : It} (h : MidI A B x) (hr : risI 0 (A ++ B) = true) (h1 : 0 < x.1) (h2 : x.2.1 ≠ 0) : risI 0 (A ++ [x] ++ B) = true := by
  obtain ⟨g1, g2⟩ := (ris_pw _ 0).1 hr
  rw [List.pairwise_append] at g2
  rw [ris_pw, List.append_assoc, List.pairwise_append, List.singleton_append, List.pairwise_cons]
  refine ⟨?_, g2.1, ⟨h.2, g2.2.1⟩, ?_⟩
  · intro y hy
    simp only [List.mem_append, List.mem_cons] at hy
    rcases hy with hy | rfl | hy
    · exact g1 y (by simp [hy])
    · exact ⟨h1, h2⟩
    · exact g1 y (by simp [hy])
  · intro a ha b hb
    rcases List.mem_cons.1 hb with rfl | hb
    · exact h.1 a ha
    · exact g2.2.2 a ha b hb
theorem posI_above (l : List It) (id : Int) (hm : risI 0 l = true) : ∀ q, (h : q < l.length) → posI l id ≤ q → id ≤ l[q].1 := by
  intro q h hq
  rcases Nat.lt_or_eq_of_le hq with h2 | h2
  · have e1 := posI_here l id (posI l id) (by omega) rfl
    have e2 := risI_lt 0 l hm (posI l id) q h h2
    omega
  · exact posI_here l id q h h2.symm
theorem below_take (l : List It) (id : Int) : ∀ a ∈ l.take (posI l id), a.1 < id := by
  intro a ha
  obtain ⟨q, hq, rfl⟩ := List.getElem_of_mem ha
  rw [List.getElem_take]
  simp only [List.length_take] at hq
  exact posI_below l id q (by omega) (by omega)
theorem ins_mid (l : List It) (x : It) (hm : risI 0 l = true) (h3 : hasI l x.1 = false) : MidI (l.take (posI l x.1)) (l.drop (posI l x.1)) x := by
  refine ⟨below_take l x.1, fun b hb => ?_⟩
  obtain ⟨q, hq, rfl⟩ := List.getElem_of_mem hb
  rw [List.getElem_drop]
  simp only [List.length_drop] at hq
  have h4 := posI_above l x.1 hm (posI l x.1 + q) (by omega) (by omega)
  by_cases e : l[posI l x.1 + q].1 = x.1
  · rw [(hasI_iff l x.1).2 ⟨_, by omega, e⟩] at h3; cases h3
  · omega
theorem chg_mid (l : List It) (x : It) (hm : risI 0 l = true) (h3 : hasI l x.1 = true) : MidI (l.take (posI l x.1)) (l.drop (posI l x.1 + 1)) x := by
  obtain ⟨hp, he, _⟩ := pos_has l x.1 hm h3
  refine ⟨below_take l x.1, fun b hb => ?_⟩
  obtain ⟨q, hq, rfl⟩ := List.getElem_of_mem hb
  rw [List.getElem_drop]
  simp only [List.length_drop] at hq
  have := risI_lt 0 l hm (posI l x.1) (posI l x.1 + 1 + q) (by omega) (by omega)
  omega
theorem chg_ris (l : List It) (p : Nat) (hm : risI 0 l = true) : risI 0 (l.take p ++ l.drop (p + 1)) = true := by
  obtain ⟨g1, g2⟩ := (ris_pw _ 0).1 hm
  have hs : List.Sublist (l.take p ++ l.drop (p + 1)) l := by
    have h : l.take p ++ l.drop p = l := List.take_append_drop p l
    have h2 : List.Sublist (l.drop (p + 1)) (l.drop p) := by rw [← List.drop_drop]; exact List.drop_sublist _ _
    exact (List.Sublist.append_left h2 _).trans (by rw [h]; exact List.Sublist.refl _)
  rw [ris_pw]
  exact ⟨fun x hx => g1 x (hs.subset hx), g2.sublist hs⟩

theorem take_drop_ins (l : List It) (x : It) (p : Nat) (hp : p ≤ l.length) : (l.take p ++ [x] ++ l.drop p).take p ++ (l.take p ++ [x] ++ l.drop p).drop (p + 1) = l := by
  have hlt : (l.take p).length = p := by rw [List.length_take]; omega
  rw [List.append_assoc, List.take_append_of_le_length (by omega), List.take_of_length_le (l := l.take p) (by omega), List.drop_append, hlt, List.drop_of_length_le (by omega)]
  simp [show p + 1 - p = 1 by omega]
/-- what is added may be, is found, and gone again it is as ahead of it -/
theorem add_back (l : List It) (x : It) (hP : 0 ≤ x.1) (hok : (addI l x).2 = 0) :
    (addI l x).1 = insI l x ∧ mayI (insI l x) = true ∧ dropI (insI l x) x.1 = (l, 0) ∧ findI (insI l x) x.1 = some x := by
  unfold addI at hok ⊢
  by_cases hbad : (!mayI l || x.1 == 0 || x.2.1 == 0) = true
  · rw [if_pos hbad] at hok; cases hok
  rw [if_neg hbad] at hok ⊢
  by_cases hh : hasI l x.1 = true
  · rw [if_pos hh] at hok; cases hok
  rw [if_neg hh] at hok ⊢
  by_cases h40 : l.length = 40
  · rw [if_pos h40] at hok; cases hok
  rw [if_neg h40]
  simp only [Bool.or_eq_true, Bool.not_eq_true', beq_iff_eq, not_or, Bool.not_eq_false] at hbad
  obtain ⟨⟨hm, hx1⟩, hx2⟩ := hbad
  obtain ⟨hlen, hr⟩ := (may_iff l).1 hm
  have hmid := ins_mid l x hr (by simpa using hh)
  have hle := posI_le l x.1
  have hlt : (l.take (posI l x.1)).length = posI l x.1 := by rw [List.length_take]; omega
  have hmay : mayI (insI l x) = true := by
    rw [may_iff]
    exact ⟨by simp [insI]; omega, mid_ris hmid (by rw [List.take_append_drop]; exact hr) (by omega) hx2⟩
  refine ⟨rfl, hmay, ?_, ?_⟩
  · have h1 : hasI (insI l x) x.1 = true := mid_has _ _ x
    have h2 : posI (insI l x) x.1 = posI l x.1 := (mid_pos hmid).trans hlt
    rw [dropI, hmay, h1, drpI, h2]
    simp only [Bool.not_true, Bool.false_eq_true, if_false]
    exact Prod.ext (take_drop_ins l x _ hle) rfl
  · rw [findI, if_pos hmay]
    exact mid_find hmid
theorem change_back (l : List It) (y : It) (hok : (changeI l y).2 = 0) :
    (changeI l y).1 = chgI l y ∧ mayI (chgI l y) = true ∧ (chgI l y).length = l.length ∧ findI (chgI l y) y.1 = some y := by
  unfold changeI at hok ⊢
  by_cases hbad : (!mayI l || y.2.1 == 0) = true
  · rw [if_pos hbad] at hok; cases hok
  rw [if_neg hbad] at hok ⊢
  by_cases hh : (!hasI l y.1) = true
  · rw [if_pos hh] at hok; cases hok
  rw [if_neg hh]
  simp only [Bool.or_eq_true, Bool.not_eq_true', beq_iff_eq, not_or, Bool.not_eq_false] at hbad hh
  obtain ⟨hm, hx2⟩ := hbad
  obtain ⟨hlen, hr⟩ := (may_iff l).1 hm
  obtain ⟨hp, he, _⟩ := pos_has l y.1 hr hh
  have hmid := chg_mid l y hr hh
  have hl : (chgI l y).length = l.length := by simp [chgI]; omega
  have hpos : 0 < y.1 := by
    have := ((ris_pw l 0).1 hr).1 _ (List.getElem_mem hp)
    omega
  have hmay : mayI (chgI l y) = true := by
    rw [may_iff, hl]
    exact ⟨hlen, mid_ris hmid (chg_ris l _ hr) hpos hx2⟩
  refine ⟨rfl, hmay, hl, ?_⟩
  rw [findI, if_pos hmay]
  exact mid_find hmid
end Go.Proofs.Ytkgebhmlogddcaa
