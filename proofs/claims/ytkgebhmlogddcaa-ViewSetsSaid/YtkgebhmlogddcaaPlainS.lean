/- Views as sets, in plain Lean: the view with an Id and without it. -/
import Derived.Test.YtkgebhmlogddcaaSet
namespace Go.Proofs.Ytkgebhmlogddcaa
open Go.RowKit

def LtS (x y : Sn) : Prop := x.1 < y.1
theorem sris_pw (l : List Sn) : ∀ a : Int, risS a l = true ↔ (∀ x ∈ l, a < x.1) ∧ l.Pairwise LtS := by
  induction l with
  | nil => intro a; simp [risS]
  | cons x l ih =>
    intro a
    simp only [risS, Bool.and_eq_true, decide_eq_true_eq, ih, List.forall_mem_cons, List.pairwise_cons]
    constructor
    · rintro ⟨h1, h2, h3⟩
      exact ⟨⟨h1, fun y hy => by have := h2 y hy; omega⟩, fun y hy => h2 y hy, h3⟩
    · rintro ⟨⟨h1, _⟩, h3, h4⟩
      exact ⟨h1, fun y hy => h3 y hy, h4⟩
theorem uniqS {l : List Sn} (h : l.Pairwise LtS) {x y : Sn} (hx : x ∈ l) (hy : y ∈ l) (e : x.1 = y.1) : x = y := by
  induction l with
  | nil => cases hx
  | cons z l ih =>
    rw [List.pairwise_cons] at h
    rcases List.mem_cons.1 hx with hx | hx <;> rcases List.mem_cons.1 hy with hy | hy
    · rw [hx, hy]
    · have := h.1 _ hy; unfold LtS at this; rw [← hx] at this; omega
    · have := h.1 _ hx; unfold LtS at this; rw [← hy] at this; omega
    · exact ih h.2 hx hy
theorem findS_iff {v : List Sn} (hm : risS 0 v = true) (id s : Int) : findS v id = some s ↔ (id, s) ∈ v := by
  rw [findS, if_pos hm, Option.map_eq_some_iff]
  constructor
  · rintro ⟨x, hx, rfl⟩
    have h1 := List.find?_some hx
    have h2 := List.mem_of_find?_eq_some hx
    simp only [beq_iff_eq] at h1
    subst h1; exact h2
  · intro h
    cases hf : v.find? (fun x => x.1 == id) with
    | none => rw [List.find?_eq_none] at hf; exact absurd (hf _ h) (by simp)
    | some x =>
      have h1 := List.find?_some hf
      have h2 := List.mem_of_find?_eq_some hf
      simp only [beq_iff_eq] at h1
      exact ⟨x, rfl, by rw [uniqS ((sris_pw v 0).1 hm).2 h2 h (by simpa using h1)]⟩
theorem findS_none_iff {v : List Sn} (hm : risS 0 v = true) (id : Int) : findS v id = none ↔ ∀ x ∈ v, x.1 ≠ id := by
  constructor
  · rintro h ⟨a, s⟩ hx e
    have e : a = id := e
    subst e
    rw [(findS_iff hm a s).2 hx] at h; cases h
  · intro h
    cases hf : findS v id with
    | none => rfl
    | some s => exact absurd rfl (h _ ((findS_iff hm id s).1 hf))
theorem drop_mem {v : List Sn} (hm : risS 0 v = true) (id : Int) : risS 0 (dropS v id) = true ∧ (∀ y, y ∈ dropS v id ↔ (y ∈ v ∧ y.1 ≠ id)) ∧ dropS (dropS v id) id = dropS v id := by
  have h1 := (sris_pw v 0).1 hm
  have hd : dropS v id = v.filter fun x => x.1 != id := by rw [dropS, if_pos hm]
  have hr : risS 0 (dropS v id) = true := by
    rw [hd]; exact (sris_pw _ 0).2 ⟨fun x hx => h1.1 x (List.mem_filter.1 hx).1, h1.2.sublist List.filter_sublist⟩
  refine ⟨hr, fun y => by rw [hd, List.mem_filter]; simp, ?_⟩
  rw [dropS, if_pos hr, hd, List.filter_filter]; simp
theorem posS_split (id : Int) (v : List Sn) : ∀ a, risS a v = true → (∀ x ∈ v.take (posS v id), x.1 < id) ∧ (∀ x ∈ v.drop (posS v id), id ≤ x.1) := by
  induction v with
  | nil => intro a _; simp
  | cons x v ih =>
    intro a hm
    by_cases hx : x.1 < id
    · have e : posS (x :: v) id = posS v id + 1 := by simp [posS, hx]
      simp only [risS, Bool.and_eq_true] at hm
      obtain ⟨h1, h2⟩ := ih x.1 hm.2
      rw [e, List.take_succ_cons, List.drop_succ_cons]
      exact ⟨fun y hy => by
        rcases List.mem_cons.1 hy with rfl | hy
        · exact hx
        · exact h1 y hy, h2⟩
    · have e : posS (x :: v) id = 0 := by simp [posS, hx]
      have h2 := (sris_pw (x :: v) a).1 hm
      rw [e]
      refine ⟨by simp, fun y hy => ?_⟩
      rcases List.mem_cons.1 hy with rfl | hy
      · omega
      · have := (List.pairwise_cons.1 h2.2).1 y hy; unfold LtS at this; omega
theorem set_split {v : List Sn} {id : Int} (s : Int) (hm : risS 0 v = true) (h0 : id ≠ 0) : ∃ A M B, setS v id s = A ++ [(id, s)] ++ B ∧ v = A ++ M ++ B ∧ (∀ m ∈ M, m.1 = id) ∧ (∀ a ∈ A, a.1 < id) ∧ ∀ b ∈ B, id < b.1 := by
  obtain ⟨hA, hB⟩ := posS_split id v 0 hm
  have hle := posS_le v id
  rw [setS, if_pos hm, if_neg h0]
  cases hh : hasS v id
  · refine ⟨v.take (posS v id), [], v.drop (posS v id), by simp, by simp, by simp, hA, fun b hb => ?_⟩
    have h1 := hB b hb
    have h2 : b.1 ≠ id := fun e => by
      have : hasS v id = true := by rw [hasS, List.any_eq_true]; exact ⟨b, List.mem_of_mem_drop hb, by simpa using e⟩
      rw [hh] at this; cases this
    omega
  · obtain ⟨hp, he, _⟩ := spos_has v id hm hh
    refine ⟨v.take (posS v id), [v[posS v id]], v.drop (posS v id + 1), ?_, by simp, by simpa using he, hA, fun b hb => ?_⟩
    · rw [if_pos rfl, List.set_eq_take_append_cons_drop, if_pos hp]; simp
    · obtain ⟨q, hq, rfl⟩ := List.getElem_of_mem hb
      simp only [List.length_drop] at hq
      have := risS_lt 0 v hm (posS v id) (posS v id + 1 + q) (by omega) (by omega)
      rw [List.getElem_drop]; omega
theorem set_mem {v : List Sn} {id : Int} (s : Int) (hm : risS 0 v = true) (h0 : 0 < id) : risS 0 (setS v id s) = true ∧ (∀ y, y ∈ setS v id s ↔ y = (id, s) ∨ (y ∈ v ∧ y.1 ≠ id)) ∧ dropS (setS v id s) id = dropS v id := by
  obtain ⟨A, M, B, hS, hv, hM, hA, hB⟩ := set_split s hm (show id ≠ 0 by omega)
  obtain ⟨h1, h2⟩ := (sris_pw v 0).1 hm
  have hr : risS 0 (setS v id s) = true := by
    rw [hS]
    refine (sris_pw _ 0).2 ⟨fun x hx => ?_, ?_⟩
    · simp only [List.mem_append, List.mem_singleton] at hx
      rcases hx with (hx | rfl) | hx
      · exact h1 x (by rw [hv]; simp [hx])
      · exact h0
      · exact h1 x (by rw [hv]; simp [hx])
    · rw [hv, List.append_assoc, List.pairwise_append] at h2
      obtain ⟨p1, p2, p3⟩ := h2
      rw [List.pairwise_append] at p2
      rw [List.append_assoc, List.pairwise_append]
      refine ⟨p1, ?_, fun a ha b hb => ?_⟩
      · rw [List.singleton_append, List.pairwise_cons]
        exact ⟨fun b hb => hB b hb, p2.2.1⟩
      · rcases List.mem_append.1 hb with hb | hb
        · rw [List.mem_singleton.1 hb]; exact hA a ha
        · exact p3 a ha b (List.mem_append_right _ hb)
  refine ⟨hr, fun y => ?_, ?_⟩
  · rw [hS, hv]
    simp only [List.mem_append, List.mem_singleton]
    constructor
    · rintro ((h | h) | h)
      · exact .inr ⟨.inl (.inl h), by have := hA y h; omega⟩
      · exact .inl h
      · exact .inr ⟨.inr h, by have := hB y h; omega⟩
    · rintro (h | ⟨(h | h) | h, hz⟩)
      · exact .inl (.inr h)
      · exact .inl (.inl h)
      · exact absurd (hM y h) hz
      · exact .inr h
  · rw [dropS, if_pos hr, dropS, if_pos hm, hS, hv]
    have e : M.filter (fun x => x.1 != id) = [] := by
      rw [List.filter_eq_nil_iff]
      intro m hm; simp [hM m hm]
    simp [List.filter_append, e]

theorem set_may {v : List Sn} (id s : Int) (h : risS 0 v = true) (h0 : 0 ≤ id) : risS 0 (setS v id s) = true := by
  by_cases e : id = 0
  · rw [setS, if_pos h, if_pos e]; exact h
  · exact (set_mem s h (by omega)).1
theorem set_len (v : List Sn) (id s : Int) : (setS v id s).length ≤ v.length + 1 := by
  have := posS_le v id
  unfold setS
  repeat' split
  all_goals simp
  omega
theorem drop_len (v : List Sn) (id : Int) : (dropS v id).length ≤ v.length + 1 := by
  unfold dropS
  split
  · have := List.length_filter_le (fun x : Sn => x.1 != id) v; omega
  · simp
theorem ris_pos {v : List Sn} (h : risS 0 v = true) : PosS v := fun x hx => Int.le_of_lt (((sris_pw v 0).1 h).1 x hx)
end Go.Proofs.Ytkgebhmlogddcaa
