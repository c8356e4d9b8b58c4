/- The law ClashTold, in plain Lean: what is pending behind what is done to an item. -/
import Derived.Test.YtkgebhmlogddcaaPend3
import Derived.Test.YtkgebhmlogddcaaClashDo
import Derived.Test.YtkgebhmlogddcaaItemBack
namespace Go.Proofs.Ytkgebhmlogddcaa
open Go.RowKit

/-! ### views and items as sets -/
def LtS (x y : Sn) : Prop := x.1 < y.1
theorem sris_pw (l : List Sn) : ∀ a : Int, risS a l = true ↔ (∀ x ∈ l, a < x.1) ∧ l.Pairwise LtS := by
  induction l with
  | nil => intro a; simp [risS]
  | cons x l ih =>
    intro a
    simp only [risS, Bool.and_eq_true, decide_eq_true_eq, ih, List.forall_mem_cons, List.pairwise_cons]
    constructor
    · rintro ⟨h1, h2, h3⟩
      exact ⟨⟨h1, fun y hy => by have := h2 y hy; omega⟩, fun y hy => h2 y hy, h3⟩
    · rintro ⟨⟨h1, _⟩, h3, h4⟩
      exact ⟨h1, fun y hy => h3 y hy, h4⟩
theorem uniqS {l : List Sn} (h : l.Pairwise LtS) {x y : Sn} (hx : x ∈ l) (hy : y ∈ l) (e : x.1 = y.1) : x = y := by
  induction l with
  | nil => cases hx
  | cons z l ih =>
    rw [List.pairwise_cons] at h
    rcases List.mem_cons.1 hx with hx | hx <;> rcases List.mem_cons.1 hy with hy | hy
    · rw [hx, hy]
    · have := h.1 _ hy; unfold LtS at this; rw [← hx] at this; omega
    · have := h.1 _ hx; unfold LtS at this; rw [← hy] at this; omega
    · exact ih h.2 hx hy
theorem uniqI {l : List It} (h : l.Pairwise LtI) {x y : It} (hx : x ∈ l) (hy : y ∈ l) (e : x.1 = y.1) : x = y := by
  induction l with
  | nil => cases hx
  | cons z l ih =>
    rw [List.pairwise_cons] at h
    rcases List.mem_cons.1 hx with hx | hx <;> rcases List.mem_cons.1 hy with hy | hy
    · rw [hx, hy]
    · have := h.1 _ hy; unfold LtI at this; rw [← hx] at this; omega
    · have := h.1 _ hx; unfold LtI at this; rw [← hy] at this; omega
    · exact ih h.2 hx hy
theorem findS_iff {v : List Sn} (hm : risS 0 v = true) (id s : Int) : findS v id = some s ↔ (id, s) ∈ v := by
  rw [findS, if_pos hm, Option.map_eq_some_iff]
  constructor
  · rintro ⟨x, hx, rfl⟩
    have h1 := List.find?_some hx
    have h2 := List.mem_of_find?_eq_some hx
    simp only [beq_iff_eq] at h1
    subst h1; exact h2
  · intro h
    cases hf : v.find? (fun x => x.1 == id) with
    | none => rw [List.find?_eq_none] at hf; exact absurd (hf _ h) (by simp)
    | some x =>
      have h1 := List.find?_some hf
      have h2 := List.mem_of_find?_eq_some hf
      simp only [beq_iff_eq] at h1
      exact ⟨x, rfl, by rw [uniqS ((sris_pw v 0).1 hm).2 h2 h (by simpa using h1)]⟩
theorem findS_none_iff {v : List Sn} (hm : risS 0 v = true) (id : Int) : findS v id = none ↔ ∀ x ∈ v, x.1 ≠ id := by
  constructor
  · rintro h ⟨a, s⟩ hx e
    have e : a = id := e
    subst e
    rw [(findS_iff hm a s).2 hx] at h; cases h
  · intro h
    cases hf : findS v id with
    | none => rfl
    | some s => exact absurd rfl (h _ ((findS_iff hm id s).1 hf))
theorem findI_iff {l : List It} (hm : mayI l = true) (id : Int) (y : It) : findI l id = some y ↔ y ∈ l ∧ y.1 = id := by
  have hp := ((ris_pw l 0).1 (risI_of l hm)).2
  rw [findI, if_pos hm]
  constructor
  · intro hx
    exact ⟨List.mem_of_find?_eq_some hx, by simpa using List.find?_some hx⟩
  · rintro ⟨h, rfl⟩
    cases hf : l.find? (fun x => x.1 == y.1) with
    | none => rw [List.find?_eq_none] at hf; exact absurd (hf _ h) (by simp)
    | some x =>
      have h1 := List.find?_some hf
      have h2 := List.mem_of_find?_eq_some hf
      simp only [beq_iff_eq] at h1
      rw [uniqI hp h2 h h1]
theorem findI_none_iff {l : List It} (hm : mayI l = true) (id : Int) : findI l id = none ↔ ∀ x ∈ l, x.1 ≠ id := by
  constructor
  · intro h x hx e
    rw [(findI_iff hm id x).2 ⟨hx, e⟩] at h; cases h
  · intro h
    cases hf : findI l id with
    | none => rfl
    | some s => have := (findI_iff hm id s).1 hf; exact absurd this.2 (h _ this.1)

/-! ### what is pending -/
theorem mem_insQ (L : List It) (x y : It) : y ∈ insQ L x ↔ y ∈ L ∨ y = x := by
  unfold insQ
  rw [List.append_assoc, List.mem_append, List.mem_append, List.mem_singleton]
  have h : y ∈ L ↔ y ∈ L.take (qpos L x) ∨ y ∈ L.drop (qpos L x) := by rw [← List.mem_append, List.take_append_drop]
  rw [h]
  constructor
  · rintro (h | h | h)
    · exact .inl (.inl h)
    · exact .inr h
    · exact .inl (.inr h)
  · rintro ((h | h) | h)
    · exact .inl h
    · exact .inr (.inr h)
    · exact .inr (.inl h)
theorem mem_rise (v : List Sn) (l : List It) (y : It) : y ∈ rise v l ↔ y ∈ l ∧ toldP v y = false := by
  have h : ∀ (l o : List It), y ∈ l.foldl (fun out x => if toldP v x then out else insQ out x) o ↔ y ∈ o ∨ (y ∈ l ∧ toldP v y = false) := by
    intro l
    induction l with
    | nil => intro o; simp
    | cons x l ih =>
      intro o
      rw [List.foldl_cons, ih]
      by_cases hx : toldP v x = true
      · rw [if_pos hx, List.mem_cons]
        constructor
        · rintro (h | h)
          · exact .inl h
          · exact .inr ⟨.inr h.1, h.2⟩
        · rintro (h | ⟨rfl | h, h2⟩)
          · exact .inl h
          · rw [hx] at h2; cases h2
          · exact .inr ⟨h, h2⟩
      · rw [if_neg hx, mem_insQ, List.mem_cons]
        constructor
        · rintro ((h | rfl) | h)
          · exact .inl h
          · exact .inr ⟨.inl rfl, by simpa using hx⟩
          · exact .inr ⟨.inr h.1, h.2⟩
        · rintro (h | ⟨rfl | h, h2⟩)
          · exact .inl (.inl h)
          · exact .inl (.inr rfl)
          · exact .inr ⟨h, h2⟩
  have := h l []
  simp only [List.not_mem_nil, false_or] at this
  exact this
theorem may_filter {l : List It} (hm : mayI l = true) (p : It → Bool) : mayI (l.filter p) = true := by
  rw [may_iff] at hm ⊢
  refine ⟨Nat.le_trans (List.length_filter_le _ _) hm.1, (ris_pw _ 0).2 ⟨fun x hx => ((ris_pw l 0).1 hm.2).1 x (List.mem_filter.1 hx).1, ((ris_pw l 0).1 hm.2).2.sublist List.filter_sublist⟩⟩
theorem mem_inI {l : List It} (hm : mayI l = true) (fo : Int) (x : It) : x ∈ inI l fo ↔ x ∈ l ∧ x.2.1 = fo := by
  rw [inI, thoseI, if_pos hm, List.mem_filter, beq_iff_eq]
theorem may_inI {l : List It} (hm : mayI l = true) (fo : Int) : mayI (inI l fo) = true := by
  rw [inI, thoseI, if_pos hm]; exact may_filter hm _
theorem pendB_iff {v : List Sn} {l : List It} (hv : risS 0 v = true) (hl : mayI l = true) (fo id : Int) :
    pendB v l fo id = true ↔ ((∃ x ∈ v, x.1 = id) ∧ (∀ y ∈ l, y.2.1 = fo → y.1 ≠ id)) ∨ (∃ y ∈ l, y.2.1 = fo ∧ y.1 = id ∧ toldP v y = false) := by
  have hI := may_inI hl fo
  rw [pendB, pendO, if_pos ⟨hv, hI⟩, List.any_append, Bool.or_eq_true]
  refine or_congr ?_ ?_
  · rw [List.any_eq_true]
    constructor
    · rintro ⟨o, ho, e⟩
      obtain ⟨x, hx, rfl⟩ := List.mem_map.1 ho
      obtain ⟨h1, h2⟩ := List.mem_filter.1 hx
      have e : x.1 = id := by simpa [delO] using e
      refine ⟨⟨x, h1, e⟩, fun y hy hf e2 => ?_⟩
      have h3 : (findI (inI l fo) x.1) = some y := (findI_iff hI _ _).2 ⟨(mem_inI hl fo y).2 ⟨hy, hf⟩, by rw [e]; exact e2⟩
      rw [goneP, h3] at h2; cases h2
    · rintro ⟨⟨x, hx, e⟩, h⟩
      refine ⟨delO x, List.mem_map.2 ⟨x, List.mem_filter.2 ⟨hx, ?_⟩, rfl⟩, by simpa [delO] using e⟩
      have h3 : findI (inI l fo) x.1 = none := (findI_none_iff hI _).2 (fun y hy => by rw [e]; have := (mem_inI hl fo y).1 hy; exact h y this.1 this.2)
      rw [goneP, h3]; rfl
  · rw [List.any_eq_true]
    constructor
    · rintro ⟨o, ho, e⟩
      obtain ⟨y, hy, rfl⟩ := List.mem_map.1 ho
      obtain ⟨h1, h2⟩ := (mem_rise v _ y).1 hy
      obtain ⟨h3, h4⟩ := (mem_inI hl fo y).1 h1
      exact ⟨y, h3, h4, by simpa [putO] using e, h2⟩
    · rintro ⟨y, hy, hf, e, ht⟩
      exact ⟨putO v 255 y, List.mem_map.2 ⟨y, (mem_rise v _ y).2 ⟨(mem_inI hl fo y).2 ⟨hy, hf⟩, ht⟩, rfl⟩, by simpa [putO] using e⟩
theorem toldP_iff {v : List Sn} (hv : risS 0 v = true) (y : It) : toldP v y = true ↔ (y.1, y.2.2.1) ∈ v := by
  rw [← findS_iff hv, toldP]
  cases findS v y.1 <;> simp

/-! ### what is done to an item, in pieces -/
theorem split_has {l : List It} {id : Int} (hm : risI 0 l = true) (h : hasI l id = true) : ∃ A y B, l = A ++ [y] ++ B ∧ y.1 = id ∧ l.take (posI l id) = A ∧ l.drop (posI l id + 1) = B ∧ (∀ a ∈ A, a.1 < id) ∧ ∀ b ∈ B, id < b.1 := by
  obtain ⟨hp, he, _⟩ := pos_has l id hm h
  have hmid := chg_mid l (id, 0, 0, none8) hm h
  refine ⟨_, l[posI l id], _, ?_, he, rfl, rfl, hmid.1, hmid.2⟩
  simp
theorem chg_back2 {l : List It} {x : It} (hm : mayI l = true) (h : hasI l x.1 = true) (hf : x.2.1 ≠ 0) :
    mayI (chgI l x) = true ∧ (∀ y, y ∈ chgI l x ↔ y = x ∨ (y ∈ l ∧ y.1 ≠ x.1)) ∧ butI (chgI l x) x.1 = butI l x.1 := by
  have hr := risI_of l hm
  have h40 := mayI_len l hm
  obtain ⟨A, y, B, hl, hy, hA, hB, ha, hb⟩ := split_has hr h
  have hc : chgI l x = A ++ [x] ++ B := by rw [chgI, hA, hB]
  rw [hc]
  obtain ⟨h1, h2⟩ := (ris_pw l 0).1 hr
  have hx0 : 0 < x.1 := by have := h1 y (by rw [hl]; simp); omega
  have hAB : risI 0 (A ++ B) = true := by have := chg_ris l (posI l x.1) hr; rwa [hA, hB] at this
  refine ⟨(may_iff _).2 ⟨by rw [hl] at h40; simpa using h40, mid_ris ⟨ha, hb⟩ hAB hx0 hf⟩, fun z => ?_, ?_⟩
  · rw [hl]
    simp only [List.mem_append, List.mem_singleton]
    constructor
    · rintro ((h | h) | h)
      · exact .inr ⟨.inl (.inl h), by have := ha z h; omega⟩
      · exact .inl h
      · exact .inr ⟨.inr h, by have := hb z h; omega⟩
    · rintro (h | ⟨(h | h) | h, hz⟩)
      · exact .inl (.inr h)
      · exact .inl (.inl h)
      · subst h; exact absurd hy hz
      · exact .inr h
  · rw [butI, butI, hl]
    simp [hy]
theorem drp_back2 {l : List It} {id : Int} (hm : mayI l = true) (h : hasI l id = true) :
    mayI (drpI l id) = true ∧ (∀ y, y ∈ drpI l id ↔ (y ∈ l ∧ y.1 ≠ id)) ∧ butI (drpI l id) id = butI l id := by
  have hr := risI_of l hm
  have h40 := mayI_len l hm
  obtain ⟨A, y, B, hl, hy, hA, hB, ha, hb⟩ := split_has hr h
  have hc : drpI l id = A ++ B := by rw [drpI, hA, hB]
  rw [hc]
  have hAB : risI 0 (A ++ B) = true := by have := chg_ris l (posI l id) hr; rwa [hA, hB] at this
  refine ⟨(may_iff _).2 ⟨by rw [hl] at h40; simp at h40 ⊢; omega, hAB⟩, fun z => ?_, ?_⟩
  · rw [hl]
    simp only [List.mem_append, List.mem_singleton]
    constructor
    · rintro (h | h)
      · exact ⟨.inl (.inl h), by have := ha z h; omega⟩
      · exact ⟨.inr h, by have := hb z h; omega⟩
    · rintro ⟨(h | h) | h, hz⟩
      · exact .inl h
      · subst h; exact absurd hy hz
      · exact .inr h
  · rw [butI, butI, hl]
    simp [hy]
theorem drop_mem {v : List Sn} (hm : risS 0 v = true) (id : Int) : risS 0 (dropS v id) = true ∧ (∀ y, y ∈ dropS v id ↔ (y ∈ v ∧ y.1 ≠ id)) ∧ dropS (dropS v id) id = dropS v id := by
  have h1 := (sris_pw v 0).1 hm
  have hd : dropS v id = v.filter fun x => x.1 != id := by rw [dropS, if_pos hm]
  have hr : risS 0 (dropS v id) = true := by
    rw [hd]; exact (sris_pw _ 0).2 ⟨fun x hx => h1.1 x (List.mem_filter.1 hx).1, h1.2.sublist List.filter_sublist⟩
  refine ⟨hr, fun y => by rw [hd, List.mem_filter]; simp, ?_⟩
  rw [dropS, if_pos hr, hd, List.filter_filter]; simp
theorem posS_split (id : Int) (v : List Sn) : ∀ a, risS a v = true → (∀ x ∈ v.take (posS v id), x.1 < id) ∧ (∀ x ∈ v.drop (posS v id), id ≤ x.1) := by
  induction v with
  | nil => intro a _; simp
  | cons x v ih =>
    intro a hm
    by_cases hx : x.1 < id
    · have e : posS (x :: v) id = posS v id + 1 := by simp [posS, List.takeWhile_cons, hx]
      simp only [risS, Bool.and_eq_true] at hm
      obtain ⟨h1, h2⟩ := ih x.1 hm.2
      rw [e, List.take_succ_cons, List.drop_succ_cons]
      exact ⟨fun y hy => by
        rcases List.mem_cons.1 hy with rfl | hy
        · exact hx
        · exact h1 y hy, h2⟩
    · have e : posS (x :: v) id = 0 := by simp [posS, List.takeWhile_cons, hx]
      have h2 := (sris_pw (x :: v) a).1 hm
      rw [e]
      refine ⟨by simp, fun y hy => ?_⟩
      rcases List.mem_cons.1 hy with rfl | hy
      · omega
      · have := (List.pairwise_cons.1 h2.2).1 y hy; unfold LtS at this; omega
theorem set_split {v : List Sn} {id : Int} (s : Int) (hm : risS 0 v = true) (h0 : id ≠ 0) : ∃ A M B, setS v id s = A ++ [(id, s)] ++ B ∧ v = A ++ M ++ B ∧ (∀ m ∈ M, m.1 = id) ∧ (∀ a ∈ A, a.1 < id) ∧ ∀ b ∈ B, id < b.1 := by
  obtain ⟨hA, hB⟩ := posS_split id v 0 hm
  have hle := posS_le v id
  rw [setS, if_pos hm, if_neg h0]
  cases hh : hasS v id
  · refine ⟨v.take (posS v id), [], v.drop (posS v id), by simp, by simp, by simp, hA, fun b hb => ?_⟩
    have h1 := hB b hb
    have h2 : b.1 ≠ id := fun e => by
      have : hasS v id = true := by rw [hasS, List.any_eq_true]; exact ⟨b, List.mem_of_mem_drop hb, by simpa using e⟩
      rw [hh] at this; cases this
    omega
  · obtain ⟨hp, he, _⟩ := spos_has v id hm hh
    refine ⟨v.take (posS v id), [v[posS v id]], v.drop (posS v id + 1), ?_, by simp, by simpa using he, hA, fun b hb => ?_⟩
    · rw [if_pos rfl, List.set_eq_take_append_cons_drop, if_pos hp]; simp
    · obtain ⟨q, hq, rfl⟩ := List.getElem_of_mem hb
      simp only [List.length_drop] at hq
      have := risS_lt 0 v hm (posS v id) (posS v id + 1 + q) (by omega) (by omega)
      rw [List.getElem_drop]; omega
theorem set_mem {v : List Sn} {id : Int} (s : Int) (hm : risS 0 v = true) (h0 : 0 < id) : risS 0 (setS v id s) = true ∧ (∀ y, y ∈ setS v id s ↔ y = (id, s) ∨ (y ∈ v ∧ y.1 ≠ id)) ∧ dropS (setS v id s) id = dropS v id := by
  obtain ⟨A, M, B, hS, hv, hM, hA, hB⟩ := set_split s hm (show id ≠ 0 by omega)
  obtain ⟨h1, h2⟩ := (sris_pw v 0).1 hm
  have hr : risS 0 (setS v id s) = true := by
    rw [hS]
    refine (sris_pw _ 0).2 ⟨fun x hx => ?_, ?_⟩
    · simp only [List.mem_append, List.mem_singleton] at hx
      rcases hx with (hx | rfl) | hx
      · exact h1 x (by rw [hv]; simp [hx])
      · exact h0
      · exact h1 x (by rw [hv]; simp [hx])
    · rw [hv, List.append_assoc, List.pairwise_append] at h2
      obtain ⟨p1, p2, p3⟩ := h2
      rw [List.pairwise_append] at p2
      rw [List.append_assoc, List.pairwise_append]
      refine ⟨p1, ?_, fun a ha b hb => ?_⟩
      · rw [List.singleton_append, List.pairwise_cons]
        exact ⟨fun b hb => hB b hb, p2.2.1⟩
      · rcases List.mem_append.1 hb with hb | hb
        · rw [List.mem_singleton.1 hb]; exact hA a ha
        · exact p3 a ha b (List.mem_append_right _ hb)
  refine ⟨hr, fun y => ?_, ?_⟩
  · rw [hS, hv]
    simp only [List.mem_append, List.mem_singleton]
    constructor
    · rintro ((h | h) | h)
      · exact .inr ⟨.inl (.inl h), by have := hA y h; omega⟩
      · exact .inl h
      · exact .inr ⟨.inr h, by have := hB y h; omega⟩
    · rintro (h | ⟨(h | h) | h, hz⟩)
      · exact .inl (.inr h)
      · exact .inl (.inl h)
      · exact absurd (hM y h) hz
      · exact .inr h
  · rw [dropS, if_pos hr, dropS, if_pos hm, hS, hv]
    have e : M.filter (fun x => x.1 != id) = [] := by
      rw [List.filter_eq_nil_iff]
      intro m hm; simp [hM m hm]
    simp [List.filter_append, e]

theorem cl_seen (kind : Int) (seen : Bool) (was : Int) (there : Bool) (now wins : Int) (h : clOf kind seen was there now wins = 2 ∨ clOf kind seen was there now wins = 3 ∨ clOf kind seen was there now wins = 4) : seen = true ∧ there = true := by
  unfold clOf at h
  repeat' split at h
  all_goals first | omega | skip
  all_goals
    rename_i h1 h2 h3 h4
    cases seen <;> cases there <;> simp_all
theorem cl_diff (kind : Int) (seen : Bool) (was : Int) (there : Bool) (now wins : Int) (h : clOf kind seen was there now wins = 3 ∨ clOf kind seen was there now wins = 4) : was ≠ now ∧ kind ≠ 4 := by
  unfold clOf at h
  repeat' split at h
  all_goals first | omega | skip
theorem cl_kind (kind : Int) (seen : Bool) (was : Int) (there : Bool) (now wins : Int) (h : clOf kind seen was there now wins ≠ 0) : kind = 2 ∨ kind = 3 ∨ kind = 4 := clof_kind _ _ _ _ _ _ h
/-! ### the law -/
theorem told_plain (l : List It) (fo : Int) (v : List Sn) (op : Opr) (g : Gn) (sq : Int) (hml : mayI l = true) (hmv : risS 0 v = true) (h1 : ¬ ((findS v op.2.2.1).isSome = true ∧ (findS v op.2.2.1).getD 0 = sq)) :
    butI (doC l fo v op g sq).1 op.2.2.1 = butI l op.2.2.1 ∧ dropS (doC l fo v op g sq).2.1 op.2.2.1 = dropS v op.2.2.1 ∧
    ((doC l fo v op g sq).2.2 = 4 → ∃ x, findI (doC l fo v op g sq).1 op.2.2.1 = some x ∧ findI l op.2.2.1 = some x ∧ pendB (doC l fo v op g sq).2.1 (doC l fo v op g sq).1 fo op.2.2.1 = true) ∧
    ((doC l fo v op g sq).2.2 = 3 → (findI (doC l fo v op g sq).1 op.2.2.1).isSome = (op.1 == 2) ∧ ((findI (doC l fo v op g sq).1 op.2.2.1).isSome = true → pendB (doC l fo v op g sq).2.1 (doC l fo v op g sq).1 fo op.2.2.1 = true)) ∧
    ((doC l fo v op g sq).2.2 = 2 ∨ (doC l fo v op g sq).2.2 = 5 → op.1 = 4 ∨ pendB (doC l fo v op g sq).2.1 (doC l fo v op g sq).1 fo op.2.2.1 = false) ∧
    ((doC l fo v op g sq).2.2 = 0 ∨ (doC l fo v op g sq).2.2 = 1 → (doC l fo v op g sq).1 = l ∧ (doC l fo v op g sq).2.1 = v) := by
  have hdo : doC l fo v op g sq = (if whatC l fo v op g = 5 then (l, dropS v op.2.2.1, 5)
    else if (whatC l fo v op g = 2 ∨ whatC l fo v op g = 3) ∧ op.1 = 3 then ((dropI l op.2.2.1).1, dropS v op.2.2.1, whatC l fo v op g)
    else if (whatC l fo v op g = 2 ∨ whatC l fo v op g = 3) ∧ op.1 = 2 then ((changeI l (newC l op g sq)).1, if whatC l fo v op g = 2 then setS v op.2.2.1 sq else v, whatC l fo v op g)
    else (l, v, whatC l fo v op g)) := by rw [doC, if_pos ⟨hml, hmv⟩]
  rw [hdo]
  clear hdo
  obtain ⟨hd1, hd2, hd3⟩ := drop_mem hmv op.2.2.1
  generalize hid : op.2.2.1 = id at *
  have hw : whatC l fo v op g = clOf op.1 (findS v id).isSome ((findS v id).getD 0) (thC l fo op) (xC l op).2.2.1 (gnWi g) := by rw [whatC, hid]
  -- what is there
  have hth : thC l fo op = true → ∃ x, findI l id = some x ∧ xC l op = x ∧ x ∈ l ∧ x.1 = id ∧ x.2.1 = fo := by
    intro h
    rw [thC, Bool.and_eq_true, hid] at h
    obtain ⟨h1, h2⟩ := h
    obtain ⟨x, hx⟩ := Option.isSome_iff_exists.1 h1
    have e : xC l op = x := by rw [xC, hid, hx]; rfl
    obtain ⟨h3, h4⟩ := (findI_iff hml id x).1 hx
    exact ⟨x, hx, e, h3, h4, by rw [e] at h2; simpa using h2⟩
  have hnot : thC l fo op = false → ∀ y ∈ l, y.2.1 = fo → y.1 ≠ id := by
    intro h y hy hf e
    have hx := (findI_iff hml id y).2 ⟨hy, e⟩
    rw [thC, xC, hid, hx] at h
    simp [hf] at h
  by_cases k5 : whatC l fo v op g = 5
  · -- gone
    have hnt : thC l fo op = false := by
      rw [hw, clOf] at k5
      repeat' split at k5
      all_goals first | omega | simp_all
    rw [if_pos k5]
    refine ⟨rfl, hd3, by simp, by simp, fun _ => .inr ?_, by simp⟩
    rw [← Bool.not_eq_true, pendB_iff hd1 hml]
    rintro (⟨⟨x, hx, e⟩, _⟩ | ⟨y, hy, hf, e, _⟩)
    · exact ((hd2 x).1 hx).2 e
    · exact hnot hnt y hy hf e
  rw [if_neg k5]
  by_cases k01 : whatC l fo v op g = 0 ∨ whatC l fo v op g = 1
  · rw [if_neg (by rintro ⟨h, _⟩; omega), if_neg (by rintro ⟨h, _⟩; omega)]
    exact ⟨rfl, rfl, fun h => by simp only at h; omega, fun h => by simp only at h; omega, fun h => by simp only at h; omega, fun _ => ⟨rfl, rfl⟩⟩
  -- told, and there
  have h234 : whatC l fo v op g = 2 ∨ whatC l fo v op g = 3 ∨ whatC l fo v op g = 4 := by
    have := clof_range op.1 (findS v id).isSome ((findS v id).getD 0) (thC l fo op) (xC l op).2.2.1 (gnWi g)
    rw [← hw] at this; omega
  obtain ⟨hse, hth2⟩ := cl_seen _ _ _ _ _ _ (by rw [← hw]; exact h234)
  obtain ⟨x, hx, hxe, hxl, hxi, hxf⟩ := hth hth2
  obtain ⟨was, hwas⟩ := Option.isSome_iff_exists.1 hse
  have hhas : hasI l id = true := by rw [← findI_has l id hml, hx]; rfl
  have hxf0 : x.2.1 ≠ 0 := (((ris_pw l 0).1 (risI_of l hml)).1 x hxl).2
  have hvm := (findS_iff hmv id was).1 hwas
  have hid0 : 0 < id := ((sris_pw v 0).1 hmv).1 _ hvm
  have hwg : (findS v id).getD 0 = was := by rw [hwas]; rfl
  have hwsq : was ≠ sq := fun e => h1 ⟨hse, by rw [hwg, e]⟩
  have hdiff : whatC l fo v op g = 3 ∨ whatC l fo v op g = 4 → was ≠ x.2.2.1 ∧ op.1 ≠ 4 := by
    intro h
    have := cl_diff op.1 (findS v id).isSome ((findS v id).getD 0) (thC l fo op) (xC l op).2.2.1 (gnWi g) (by rw [← hw]; exact h)
    rwa [hwg, hxe] at this
  have hkind : op.1 = 2 ∨ op.1 = 3 ∨ op.1 = 4 := cl_kind op.1 (findS v id).isSome ((findS v id).getD 0) (thC l fo op) (xC l op).2.2.1 (gnWi g) (by rw [← hw]; omega)
  have hnt : ∀ y : It, y.1 = id → y.2.2.1 ≠ was → toldP v y = false := by
    intro y e h
    rw [← Bool.not_eq_true, toldP_iff hmv, e]
    intro h2
    rw [← findS_iff hmv, hwas] at h2
    injection h2 with h2; exact h h2.symm
  by_cases k4 : whatC l fo v op g = 4
  · rw [if_neg (by rintro ⟨h, _⟩; omega), if_neg (by rintro ⟨h, _⟩; omega)]
    refine ⟨rfl, rfl, fun _ => ⟨x, hx, hx, ?_⟩, fun h => by simp only at h; omega, fun h => by simp only at h; omega, fun h => by simp only at h; omega⟩
    exact (pendB_iff hmv hml fo id).2 (.inr ⟨x, hxl, hxf, hxi, hnt x hxi (Ne.symm (hdiff (.inr k4)).1)⟩)
  have h23 : whatC l fo v op g = 2 ∨ whatC l fo v op g = 3 := by omega
  by_cases o3 : op.1 = 3
  · rw [if_pos ⟨h23, o3⟩]
    have hdr : (dropI l id).1 = drpI l id := by rw [dropI, hml, hhas]; rfl
    obtain ⟨b1, b2, b3⟩ := drp_back2 hml hhas
    simp only [hdr]
    have hnone : findI (drpI l id) id = none := (findI_none_iff b1 id).2 (fun y hy => ((b2 y).1 hy).2)
    refine ⟨b3, hd3, fun h => by omega, fun _ => ⟨by rw [hnone, o3]; rfl, fun h => by rw [hnone] at h; cases h⟩, fun _ => .inr ?_, fun h => by omega⟩
    rw [← Bool.not_eq_true, pendB_iff hd1 b1]
    rintro (⟨⟨y, hy, e⟩, _⟩ | ⟨y, hy, hf, e, _⟩)
    · exact ((hd2 y).1 hy).2 e
    · exact ((b2 y).1 hy).2 e
  · rw [if_neg (by rintro ⟨_, h⟩; exact o3 h)]
    by_cases o2 : op.1 = 2
    · rw [if_pos ⟨h23, o2⟩]
      have hn1 : (newC l op g sq).1 = id := by rw [newC, hxe]; exact hxi
      have hn2 : (newC l op g sq).2.1 = fo := by rw [newC, hxe]; exact hxf
      have hn3 : (newC l op g sq).2.2.1 = sq := by rw [newC]
      generalize newC l op g sq = y at *
      have hf0 : y.2.1 ≠ 0 := by rw [hn2, ← hxf]; exact hxf0
      have hhas2 : hasI l y.1 = true := by rw [hn1]; exact hhas
      have hch : (changeI l y).1 = chgI l y := by rw [changeI, hml, hhas2, show (y.2.1 == 0) = false from by simpa using hf0]; rfl
      obtain ⟨b1, b2, b3⟩ := chg_back2 hml hhas2 hf0
      rw [hn1] at b2 b3
      simp only [hch]
      have hsome : findI (chgI l y) id = some y := (findI_iff b1 id y).2 ⟨(b2 y).2 (.inl rfl), hn1⟩
      obtain ⟨c1, c2, c3⟩ := set_mem sq hmv hid0
      refine ⟨b3, ?_, fun h => by omega, fun h => ⟨by rw [hsome, o2]; rfl, fun _ => ?_⟩, fun h => .inr ?_, fun h => by omega⟩
      · split
        · exact c3
        · rfl
      · rw [if_neg (by omega)]
        exact (pendB_iff hmv b1 fo id).2 (.inr ⟨y, (b2 y).2 (.inl rfl), hn2, hn1, hnt y hn1 (by rw [hn3]; exact Ne.symm hwsq)⟩)
      · have h2 : whatC l fo v op g = 2 := by rcases h with h | h <;> omega
        rw [if_pos h2, ← Bool.not_eq_true, pendB_iff c1 b1]
        rintro (⟨_, h⟩ | ⟨z, hz, hf, e, ht⟩)
        · exact h y ((b2 y).2 (.inl rfl)) hn2 hn1
        · rcases (b2 z).1 hz with rfl | ⟨_, hne⟩
          · rw [← Bool.not_eq_true] at ht
            exact ht ((toldP_iff c1 z).2 ((c2 _).2 (.inl (by rw [hn1, hn3]))))
          · exact hne e
    · have o4 : op.1 = 4 := by omega
      rw [if_neg (by rintro ⟨_, h⟩; exact o2 h)]
      have h2 : whatC l fo v op g = 2 := by
        rcases h23 with h | h
        · exact h
        · exact absurd o4 (hdiff (.inl h)).2
      exact ⟨rfl, rfl, fun h => by simp only at h; omega, fun h => by simp only at h; omega, fun _ => .inl o4, fun h => by simp only at h; omega⟩
end Go.Proofs.Ytkgebhmlogddcaa
