/- Part 6 of 7 of the proof of ViewAll: Sym1, VPlain, VLaw, Sym2, Sym3, Sym4, Sym5, Sym6, Sym7, Sym8. Conditions: none beyond the given statement's own. -/
import Derived.Test.YtkgebhmlogddcaaMViewAll5
import Derived.Great.Walk
/- The stable order in plain Lean: what is sorted and has the same ones of each Seq in the same order is one list; merging. -/
namespace Go.Proofs.Ytkgebhmlogddcaa
open Go.RowKit
set_option linter.unusedSimpArgs false

def atQ (q : Int) (x : It) : Bool := x.2.2.1 == q
/-- of each Seq the same ones in the same order -/
def Stb (L M : List It) : Prop := ∀ q : Int, L.filter (atQ q) = M.filter (atQ q)
theorem Stb.refl (L : List It) : Stb L L := fun _ => rfl
theorem Stb.symm {L M : List It} (h : Stb L M) : Stb M L := fun q => (h q).symm
theorem Stb.trans {L M N : List It} (h : Stb L M) (k : Stb M N) : Stb L N := fun q => (h q).trans (k q)
theorem Stb.append {A A' B B' : List It} (h : Stb A A') (k : Stb B B') : Stb (A ++ B) (A' ++ B') := fun q => by rw [List.filter_append, List.filter_append, h q, k q]
theorem Stb.mem {L M : List It} (h : Stb L M) (x : It) : x ∈ L ↔ x ∈ M := by
  have h1 : ∀ K : List It, x ∈ K ↔ x ∈ K.filter (atQ x.2.2.1) := fun K => by simp [List.mem_filter, atQ]
  rw [h1 L, h1 M, h]
theorem filter_nil_or (X Y : List It) (h : ∀ x ∈ X, ∀ y ∈ Y, x.2.2.1 ≠ y.2.2.1) (q : Int) : X.filter (atQ q) = [] ∨ Y.filter (atQ q) = [] := by
  rcases hX : X.filter (atQ q) with _ | ⟨x, X'⟩
  · exact .inl rfl
  · right
    have hx : x ∈ X.filter (atQ q) := by rw [hX]; simp
    rw [List.mem_filter] at hx
    rw [List.filter_eq_nil_iff]
    intro y hy e
    have h1 := h x hx.1 y hy
    have h2 : x.2.2.1 = q := by simpa [atQ] using hx.2
    have h3 : y.2.2.1 = q := by simpa [atQ] using e
    omega
theorem Stb.swap (X Y : List It) (h : ∀ x ∈ X, ∀ y ∈ Y, x.2.2.1 ≠ y.2.2.1) : Stb (X ++ Y) (Y ++ X) := fun q => by
  rw [List.filter_append, List.filter_append]
  rcases filter_nil_or X Y h q with e | e <;> simp [e]
theorem sorted_unique : ∀ (L M : List It), L.Pairwise SeqLe → M.Pairwise SeqLe → Stb L M → L = M := by
  intro L
  induction L with
  | nil =>
    intro M _ _ h
    rcases M with _ | ⟨y, M⟩
    · rfl
    · have := (h.mem y).2 (by simp); simp at this
  | cons x L ih =>
    intro M hL hM h
    rcases M with _ | ⟨y, M⟩
    · have := (h.mem x).1 (by simp); simp at this
    · rw [List.pairwise_cons] at hL hM
      have hxy : x.2.2.1 = y.2.2.1 := by
        have h1 : x.2.2.1 ≤ y.2.2.1 := by
          rcases List.mem_cons.1 ((h.mem y).2 (by simp)) with e | e
          · rw [e]; omega
          · exact hL.1 y e
        have h2 : y.2.2.1 ≤ x.2.2.1 := by
          rcases List.mem_cons.1 ((h.mem x).1 (by simp)) with e | e
          · rw [e]; omega
          · exact hM.1 x e
        omega
      have hx := h x.2.2.1
      have e1 : atQ x.2.2.1 x = true := by simp [atQ]
      have e2 : atQ x.2.2.1 y = true := by simp [atQ, hxy]
      rw [List.filter_cons, if_pos e1, List.filter_cons, if_pos e2] at hx
      injection hx with hx _
      subst hx
      rw [ih M hL.2 hM.2 (fun q => by
        have := h q
        rw [List.filter_cons, List.filter_cons] at this
        split at this
        · injection this
        · exact this)]
theorem insQ_stb {L : List It} (x : It) (h : L.Pairwise SeqLe) : Stb (insQ L x) (L ++ [x]) := by
  have h1 : Stb ([x] ++ L.drop (qpos L x)) (L.drop (qpos L x) ++ [x]) := Stb.swap _ _ (fun a ha b hb => by
    rw [List.mem_singleton] at ha
    subst ha
    obtain ⟨i, hi, rfl⟩ := List.mem_iff_getElem.1 hb
    rw [List.getElem_drop]
    rw [List.length_drop] at hi
    have := (qpos_iff a h (qpos L a + i) (by omega)).2 (by omega)
    omega)
  have h2 := (Stb.refl (L.take (qpos L x))).append h1
  rw [← List.append_assoc, ← List.append_assoc, List.take_append_drop] at h2
  exact h2
theorem isort_stb (l : List It) : Stb (isort l) l := by
  have h : ∀ (l o : List It), o.Pairwise SeqLe → Stb (l.foldl insQ o) (o ++ l) := by
    intro l
    induction l with
    | nil => intro o _; rw [List.append_nil]; exact Stb.refl _
    | cons x l ih =>
      intro o ho
      refine (ih (insQ o x) (insQ_sorted x ho)).trans ?_
      have := (insQ_stb x ho).append (Stb.refl l)
      rwa [List.append_assoc] at this
  exact h l [] List.Pairwise.nil
theorem isort_eq {L l : List It} (h : L.Pairwise SeqLe) (k : Stb L l) : isort l = L := sorted_unique _ _ (isort_sorted l) h ((isort_stb l).trans k.symm)
theorem isort_id {L : List It} (h : L.Pairwise SeqLe) : isort L = L := isort_eq h (Stb.refl _)

theorem merge_law (A1 A2 B1 B2 : List It) (hU : (A1 ++ A2).Pairwise SeqLe) (hV : (B1 ++ B2).Pairwise SeqLe) (F1 : ∀ x ∈ A1, ∀ y ∈ B2, x.2.2.1 ≤ y.2.2.1) (F2 : ∀ x ∈ A2, ∀ y ∈ B1, y.2.2.1 < x.2.2.1) :
    isort (A1 ++ B1) ++ isort (A2 ++ B2) = isort (A1 ++ A2 ++ (B1 ++ B2)) := by
  rw [List.pairwise_append] at hU hV
  refine (isort_eq ?_ ?_).symm
  · rw [List.pairwise_append]
    refine ⟨isort_sorted _, isort_sorted _, fun x hx y hy => ?_⟩
    have hx := ((isort_stb _).mem x).1 hx
    have hy := ((isort_stb _).mem y).1 hy
    unfold SeqLe
    rcases List.mem_append.1 hx with hx | hx <;> rcases List.mem_append.1 hy with hy | hy
    · exact hU.2.2 x hx y hy
    · exact F1 x hx y hy
    · have := F2 y hy x hx; omega
    · exact hV.2.2 x hx y hy
  · have h1 := ((isort_stb (A1 ++ B1)).append (isort_stb (A2 ++ B2)))
    refine h1.trans ?_
    have h2 := ((Stb.refl A1).append (Stb.swap B1 A2 (fun x hx y hy => by have := F2 y hy x hx; omega))).append (Stb.refl B2)
    simp only [List.append_assoc] at h2 ⊢
    exact h2

/-! ### where an element stands: behind those that are below it -/
def lpos (L : List It) (x : It) : Nat := (L.takeWhile fun y => decide (y.2.2.1 < x.2.2.1)).length
theorem lpos_le (L : List It) (x : It) : lpos L x ≤ L.length := by unfold lpos; exact (List.takeWhile_sublist _).length_le
theorem lpos_iff {S : List It} (x : It) (h : S.Pairwise SeqLe) : ∀ (q : Nat) (hq : q < S.length), S[q].2.2.1 < x.2.2.1 ↔ q < lpos S x := by
  induction S with
  | nil => intro q hq; simp at hq
  | cons y S ih =>
    rw [List.pairwise_cons] at h
    intro q hq
    by_cases hy : y.2.2.1 < x.2.2.1
    · have e : lpos (y :: S) x = lpos S x + 1 := by simp [lpos, hy]
      rw [e]
      rcases q with _ | q
      · simpa using hy
      · rw [List.getElem_cons_succ, ih h.2 q (by simpa using hq)]; omega
    · have e : lpos (y :: S) x = 0 := by simp [lpos, hy]
      rw [e]
      rcases q with _ | q
      · simpa using hy
      · rw [List.getElem_cons_succ]
        have hq' : q < S.length := by simpa using hq
        have := h.1 S[q] (List.getElem_mem hq')
        unfold SeqLe at this
        constructor <;> intro h' <;> omega
/-- one ahead of others -/
theorem isort_front {V : List It} (x : It) (h : V.Pairwise SeqLe) : isort (x :: V) = V.take (lpos V x) ++ [x] ++ V.drop (lpos V x) := by
  refine isort_eq ?_ ?_
  · have hV := h
    rw [← List.take_append_drop (lpos V x) V, List.pairwise_append] at h
    rw [List.append_assoc, List.pairwise_append]
    refine ⟨h.1, ?_, ?_⟩
    · rw [List.singleton_append, List.pairwise_cons]
      refine ⟨fun y hy => ?_, h.2.1⟩
      obtain ⟨i, hi, rfl⟩ := List.mem_iff_getElem.1 hy
      rw [List.length_drop] at hi
      rw [List.getElem_drop]
      have := lpos_iff x hV (lpos V x + i) (by omega)
      unfold SeqLe; omega
    · intro y hy z hz
      obtain ⟨i, hi, rfl⟩ := List.mem_iff_getElem.1 hy
      rw [List.length_take] at hi
      have h1 := (lpos_iff x hV i (by omega)).2 (by omega)
      rw [List.singleton_append] at hz
      rcases List.mem_cons.1 hz with rfl | hz
      · rw [List.getElem_take]; unfold SeqLe; omega
      · exact h.2.2 _ hy z hz
  · have h1 : Stb (V.take (lpos V x) ++ [x]) ([x] ++ V.take (lpos V x)) := Stb.swap _ _ (fun a ha b hb => by
      rw [List.mem_singleton] at hb
      subst hb
      obtain ⟨i, hi, rfl⟩ := List.mem_iff_getElem.1 ha
      rw [List.length_take] at hi
      rw [List.getElem_take]
      have := (lpos_iff b h i (by omega)).2 (by omega)
      omega)
    have h2 := h1.append (Stb.refl (V.drop (lpos V x)))
    rw [List.append_assoc [x], List.take_append_drop] at h2
    exact h2
/-- one behind others -/
theorem isort_back {U : List It} (x : It) (h : U.Pairwise SeqLe) : isort (U ++ [x]) = U.take (qpos U x) ++ [x] ++ U.drop (qpos U x) := by
  rw [isort_snoc, isort_id h]; rfl
end Go.Proofs.Ytkgebhmlogddcaa
/- The law ViewAll in plain Lean: behind all that is pending the view is just the items'. -/
namespace Go.Proofs.Ytkgebhmlogddcaa
open Go.RowKit

def seenOf (x : It) : Sn := (x.1, x.2.2.1)
theorem lts_unique : ∀ (L M : List Sn), L.Pairwise LtS → M.Pairwise LtS → (∀ y, y ∈ L ↔ y ∈ M) → L = M := by
  intro L
  induction L with
  | nil =>
    intro M _ _ h
    rcases M with _ | ⟨y, M⟩
    · rfl
    · have := (h y).2 (by simp); simp at this
  | cons x L ih =>
    intro M hL hM h
    rcases M with _ | ⟨y, M⟩
    · have := (h x).1 (by simp); simp at this
    · rw [List.pairwise_cons] at hL hM
      have hxy : x = y := by
        rcases List.mem_cons.1 ((h y).2 (by simp)) with e | e
        · exact e.symm
        · rcases List.mem_cons.1 ((h x).1 (by simp)) with e' | e'
          · exact e'
          · have h1 := hL.1 y e; have h2 := hM.1 x e'; unfold LtS at h1 h2; omega
      subst hxy
      rw [ih M hL.2 hM.2 (fun z => by
        constructor
        · intro hz
          rcases List.mem_cons.1 ((h z).1 (by simp [hz])) with e | e
          · subst e; have := hL.1 z hz; unfold LtS at this; omega
          · exact e
        · intro hz
          rcases List.mem_cons.1 ((h z).2 (by simp [hz])) with e | e
          · subst e; have := hM.1 z hz; unfold LtS at this; omega
          · exact e)]
/-- what is dropped -/
theorem told_dels (l : List It) : ∀ (D out : List Sn), risS 0 out = true → risS 0 (toldO out l (D.map delO)) = true ∧ ∀ y, y ∈ toldO out l (D.map delO) ↔ y ∈ out ∧ ∀ d ∈ D, y.1 ≠ d.1 := by
  intro D
  induction D with
  | nil => intro out h; simpa [toldO] using h
  | cons d D ih =>
    intro out h
    have e : toldO out l ((d :: D).map delO) = toldO (dropS out d.1) l (D.map delO) := rfl
    obtain ⟨h1, h2, _⟩ := drop_mem h d.1
    obtain ⟨k1, k2⟩ := ih (dropS out d.1) h1
    rw [e]
    refine ⟨k1, fun y => ?_⟩
    rw [k2, h2]
    constructor
    · rintro ⟨⟨a, b⟩, c⟩
      refine ⟨a, fun z hz => ?_⟩
      rcases List.mem_cons.1 hz with rfl | hz
      · exact b
      · exact c z hz
    · rintro ⟨a, b⟩
      exact ⟨⟨a, b d (by simp)⟩, fun z hz => b z (by simp [hz])⟩
/-- what is told of items -/
theorem told_puts (v : List Sn) (gv : Int) (l : List It) (hl : mayI l = true) : ∀ (X : List It), (∀ x ∈ X, x ∈ l) → ∀ out : List Sn, risS 0 out = true →
    risS 0 (toldO out l (X.map (putO v gv))) = true ∧ ∀ y, y ∈ toldO out l (X.map (putO v gv)) ↔ (∃ x ∈ X, y = seenOf x) ∨ (y ∈ out ∧ ∀ x ∈ X, y.1 ≠ x.1) := by
  have hr := (ris_pw l 0).1 (risI_of l hl)
  intro X
  induction X with
  | nil => intro _ out h; simpa [toldO] using h
  | cons x X ih =>
    intro hX out h
    have hx := hX x (by simp)
    have hf : findI l x.1 = some x := (findI_iff hl x.1 x).2 ⟨hx, rfl⟩
    have e : toldO out l ((x :: X).map (putO v gv)) = toldO (setS out x.1 x.2.2.1) l (X.map (putO v gv)) := by
      show toldO (toldStep l out (putO v gv x)) l (X.map (putO v gv)) = _
      congr 1
      unfold toldStep
      have e1 : ¬ (putO v gv x).1 = 3 := by simp only [putO]; split <;> decide
      have e2 : (putO v gv x).1 = 1 ∨ (putO v gv x).1 = 2 := by simp only [putO]; split <;> simp
      have e3 : (putO v gv x).2.2.1 = x.1 := rfl
      rw [if_neg e1, e3, hf, if_pos ⟨rfl, e2⟩]
      rfl
    obtain ⟨h1, h2, _⟩ := set_mem x.2.2.1 h (hr.1 x hx).1
    obtain ⟨k1, k2⟩ := ih (fun z hz => hX z (by simp [hz])) (setS out x.1 x.2.2.1) h1
    rw [e]
    refine ⟨k1, fun y => ?_⟩
    rw [k2, h2]
    constructor
    · rintro (⟨z, hz, rfl⟩ | ⟨rfl | ⟨a, b⟩, c⟩)
      · exact .inl ⟨z, by simp [hz], rfl⟩
      · exact .inl ⟨x, by simp, rfl⟩
      · exact .inr ⟨a, fun z hz => by
          rcases List.mem_cons.1 hz with rfl | hz
          · exact b
          · exact c z hz⟩
    · rintro (⟨z, hz, rfl⟩ | ⟨a, b⟩)
      · by_cases hzX : ∃ z' ∈ X, seenOf z = seenOf z'
        · exact .inl hzX
        · right
          have hzx : z = x := by
            rcases List.mem_cons.1 hz with e | e
            · exact e
            · exact absurd ⟨z, e, rfl⟩ hzX
          subst hzx
          refine ⟨.inl rfl, fun z' hz' e => hzX ?_⟩
          have : z = z' := uniqI hr.2 hx (hX z' (by simp [hz'])) e
          exact ⟨z', hz', by rw [this]⟩
      · exact .inr ⟨.inr ⟨a, b x (by simp)⟩, fun z hz => b z (by simp [hz])⟩
theorem mem_isort (l : List It) (x : It) : x ∈ isort l ↔ x ∈ l := (isort_stb l).mem x
/-- BEHIND ALL THAT IS PENDING THE VIEW IS THE ITEMS' -/
theorem told_all (v : List Sn) (l : List It) (gv : Int) (hv : risS 0 v = true) (hl : mayI l = true) :
    toldO v l ((v.filter (goneP l)).map delO ++ ((isort l).filter (newP v)).map (putO v gv)) = l.map seenOf := by
  have hr := (ris_pw l 0).1 (risI_of l hl)
  have e : toldO v l ((v.filter (goneP l)).map delO ++ ((isort l).filter (newP v)).map (putO v gv)) = toldO (toldO v l ((v.filter (goneP l)).map delO)) l (((isort l).filter (newP v)).map (putO v gv)) := by
    unfold toldO; rw [List.foldl_append]
  rw [e]
  obtain ⟨h1, h2⟩ := told_dels l (v.filter (goneP l)) v hv
  obtain ⟨k1, k2⟩ := told_puts v gv l hl ((isort l).filter (newP v)) (fun x hx => (mem_isort l x).1 (List.mem_filter.1 hx).1) _ h1
  refine lts_unique _ _ ((sris_pw _ 0).1 k1).2 ?_ (fun y => ?_)
  · rw [List.pairwise_map]; exact hr.2
  · rw [k2, h2, List.mem_map]
    constructor
    · rintro (⟨x, hx, rfl⟩ | ⟨⟨hy, hd⟩, hx⟩)
      · exact ⟨x, (mem_isort l x).1 (List.mem_filter.1 hx).1, rfl⟩
      · have hg : goneP l y = false := by
          cases hg : goneP l y
          · rfl
          · exact absurd rfl (hd y (List.mem_filter.2 ⟨hy, hg⟩))
        cases hf : findI l y.1 with
        | none => simp [goneP, hf] at hg
        | some x =>
          obtain ⟨hxl, hxi⟩ := (findI_iff hl y.1 x).1 hf
          refine ⟨x, hxl, ?_⟩
          have ht : newP v x = false := by
            cases ht : newP v x
            · rfl
            · exact absurd hxi.symm (hx x (List.mem_filter.2 ⟨(mem_isort l x).2 hxl, ht⟩))
          simp only [newP, toldP, Bool.not_eq_false', Bool.and_eq_true, beq_iff_eq] at ht
          have h3 : findS v x.1 = some x.2.2.1 := by
            cases hs : findS v x.1 with
            | none => rw [hs] at ht; simp at ht
            | some s => rw [hs] at ht; simpa using ht.2
          have h4 := (findS_iff hv x.1 x.2.2.1).1 h3
          exact uniqS ((sris_pw v 0).1 hv).2 h4 hy hxi
    · rintro ⟨x, hx, rfl⟩
      by_cases hn : newP v x = true
      · exact .inl ⟨x, List.mem_filter.2 ⟨(mem_isort l x).2 hx, hn⟩, rfl⟩
      · right
        have ht : newP v x = false := by simpa using hn
        simp only [newP, toldP, Bool.not_eq_false', Bool.and_eq_true, beq_iff_eq] at ht
        have h3 : findS v x.1 = some x.2.2.1 := by
          cases hs : findS v x.1 with
          | none => rw [hs] at ht; simp at ht
          | some s => rw [hs] at ht; simpa using ht.2
        refine ⟨⟨(findS_iff hv x.1 x.2.2.1).1 h3, fun d hd e => ?_⟩, fun z hz e => ?_⟩
        · have hg := (List.mem_filter.1 hd).2
          have e : x.1 = d.1 := e
          simp only [goneP, ← e, (findI_iff hl x.1 x).2 ⟨hx, rfl⟩] at hg
          cases hg
        · have hz2 := List.mem_filter.1 hz
          have : x = z := uniqI hr.2 hx ((mem_isort l z).1 hz2.1) e
          subst this
          exact hn hz2.2
theorem ris_seen (l : List It) (hl : mayI l = true) : risS 0 (l.map seenOf) = true := by
  have hr := (ris_pw l 0).1 (risI_of l hl)
  refine (sris_pw _ 0).2 ⟨fun y hy => ?_, by rw [List.pairwise_map]; exact hr.2⟩
  obtain ⟨x, hx, rfl⟩ := List.mem_map.1 hy
  exact (hr.1 x hx).1
theorem pend_none (l : List It) (gv : Int) (hl : mayI l = true) :
    (((l.map seenOf).filter (goneP l)).map delO ++ ((isort l).filter (newP (l.map seenOf))).map (putO (l.map seenOf) gv)) = [] := by
  have hg : (l.map seenOf).filter (goneP l) = [] := by
    rw [List.filter_eq_nil_iff]
    intro y hy e
    obtain ⟨x, hx, rfl⟩ := List.mem_map.1 hy
    have h1 : findI l (seenOf x).1 = some x := (findI_iff hl x.1 x).2 ⟨hx, rfl⟩
    simp [goneP, h1] at e
  have hn : (isort l).filter (newP (l.map seenOf)) = [] := by
    rw [List.filter_eq_nil_iff]
    intro x hx e
    have hx := (mem_isort l x).1 hx
    have h1 : findS (l.map seenOf) x.1 = some x.2.2.1 := (findS_iff (ris_seen l hl) x.1 x.2.2.1).2 (List.mem_map.2 ⟨x, hx, rfl⟩)
    simp [newP, toldP, h1] at e
  rw [hg, hn]; rfl
end Go.Proofs.Ytkgebhmlogddcaa
/- The small functions of the law of layer 20: seen, items, great, lives. -/
namespace Go.Proofs.Ytkgebhmlogddcaa
open Go.RowKit
set_option linter.unusedSimpArgs false
attribute [local go_sem] rowAt_alloc_at rowAt_alloc_past rowOk_alloc_at rowOk_alloc_past rowAt_drew rowOk_drew setRow_alloc_at setRow_alloc_past rowAt_setRow rowAt_setRow_far rowOk_setRow cell_rowOk frozen_rowOk setCell_rowOk setRow_setRow con_fold con_get con_size con_set set_all none8_cells equalIn_con storeCells_con
attribute [local go_sem] it_size it_0 it_1 it_2 it_3 it_4 it_5 it_6 it_7 it_8 it_9 it_10 it_set0 it_set1 it_set2 it_fold it_zero it_eta it_fill run_storeCells_it
attribute [local go_sem] sn_size sn_0 sn_1 sn_set0 sn_set1 sn_fold sn_eta sn_fill run_storeCells_sn eqg_sn eqg_it
attribute [local go_sem high] equalIn_sn equalIn_it
attribute [local go_sem] it_set2 op_size op_0 op_1 op_2 op_3 op_4 op_5 op_6 op_7 op_8 op_9 op_10 op_11 op_con op_fold op_fold0 op_fillz op_set0 op_set1 op_set2 op_set3 op_ne op_fillC op_eta run_storeCells_op it_extr

def V20 : List Sn := [(2, 5), (7, 6)]
def I20 : List It := [(2, 1, 5, none8), (3, 1, 9, none8), (4, 1, 8, none8)]
def P20 : List Opr := [(3, 0, 7, 0, none8), (1, 0, 4, 255, none8), (1, 0, 3, 255, none8)]
def T20 : List Sn := [(2, 5), (3, 9), (4, 8)]
theorem p20 : (V20.filter (goneP I20)).map delO ++ ((isort I20).filter (newP V20)).map (putO V20 255) = P20 := by rfl
theorem t20 : toldO V20 I20 P20 = T20 := by rfl
theorem s20 : findS (setS V20 7 9) 7 = some 9 := by rfl
set_option maxHeartbeats 400000 in
theorem seen_any (w : World) : Calls Try.prog 60 #[] w fun e w' => ∃ v, e = .returned v ∧ KS.Own w' w.heap.size v V20 ∧ New w w' := by
  go_enter Try.func60, Try.ntmps60
  go_wp2
  go_ret
  refine ⟨_, rfl, ?_, (New.rfl' w).alloc' _⟩
  have h : ∀ cs : Array Value, cs.toList = KS.flat V20 → cs.size = 4 → KS.Own (w.alloc (Obj.cells cs KS.e)) w.heap.size (.slice (some ⟨w.heap.size, 0, none⟩) 2 2) V20 := by
    intro cs h1 h2
    have h3 := World.ownsRow_lit (base := w.heap.size) (e := KS.e) (size := 2) w cs 2 (Nat.le_refl _) (by decide) (by omega)
    rw [h1] at h3
    exact h3
  exact h _ (by kernel_rfl) (by kernel_rfl)
set_option maxHeartbeats 800000 in
set_option maxRecDepth 100000 in
theorem items20_any (w : World) : Calls Try.prog 61 #[] w fun e w' => ∃ v, e = .returned v ∧ KI.Own w' w.heap.size v I20 ∧ New w w' := by
  go_enter Try.func61, Try.ntmps61
  go_step
  go_step
  go_step
  go_step
  go_step
  apply_assumption
  go_step
  apply_assumption
  go_step
  go_step
  refine Go.wpList_buildTo rfl _ _ rfl _ rfl (itA (2, 1, 5, none8)) (by kernel_rfl) ?_
  refine Go.wpList_buildTo rfl _ _ rfl _ rfl (itA (3, 1, 9, none8)) (by kernel_rfl) ?_
  refine Go.wpList_buildTo rfl _ _ rfl _ rfl (itA (4, 1, 8, none8)) (by kernel_rfl) ?_
  refine Go.Great.wpList_buildSliceTo rfl _ 28 _ _ rfl _ rfl _ rfl (by kernel_rfl) ((KI.flat I20).toArray) (by kernel_rfl) ?_
  generalize hcs : (KI.flat I20).toArray = cs
  go_wp2
  go_ret
  refine ⟨_, rfl, ?_, (New.rfl' w).alloc' _⟩
  subst hcs
  have h3 := World.ownsRow_lit (base := w.heap.size) (e := KI.e) (size := 11) w ((KI.flat I20).toArray) 3 (Nat.le_refl _) (by decide) (by kernel_rfl)
  exact h3
theorem rdlit20 (w : World) (cs : Array Value) (h1 : cs.toList = KS.flat T20) (h2 : cs.size = 6) : KS.Rd (w.alloc (Obj.cells cs KS.e)) (some ⟨w.heap.size, 0, none⟩) 3 T20 := by
  have h3 := World.ownsRow_lit (base := w.heap.size) (e := KS.e) (size := 2) w cs 3 (Nat.le_refl _) (by decide) (by omega)
  rw [h1] at h3
  exact (Kind.Rd.of_own (show KS.Own _ w.heap.size _ T20 from h3)).1
set_option maxHeartbeats 400000 in
theorem great20 (A : Option Addr) (n c : Nat) (B : Option Addr) (m d : Nat) (O : Option Addr) (k o : Nat) (w : World) :
    Calls Try.prog 37 #[.slice A n c, .slice B m d, .slice O k o] w fun e w' => e = .returned (.bool (decide (100 < n) || decide (60 < m) || decide (100 < k))) ∧ w = w' := by
  by_cases h1 : 100 < n
  · have d1 : decide ((100 : Int) < (n : Int)) = true := by simp; omega
    have d2 : decide (100 < n) = true := by simpa using h1
    go_enter Try.func37, Try.ntmps37
    go_wp2_with fail
    go_ret
    exact ⟨by rw [d2]; rfl, rfl⟩
  · have d1 : decide ((100 : Int) < (n : Int)) = false := by simp; omega
    have d2 : decide (100 < n) = false := by simpa using h1
    by_cases h3 : 60 < m
    · have d3 : decide ((60 : Int) < (m : Int)) = true := by simp; omega
      have d4 : decide (60 < m) = true := by simpa using h3
      go_enter Try.func37, Try.ntmps37
      go_wp2_with fail
      go_ret
      exact ⟨by rw [d2, d4]; rfl, rfl⟩
    · have d3 : decide ((60 : Int) < (m : Int)) = false := by simp; omega
      have d4 : decide (60 < m) = false := by simpa using h3
      go_enter Try.func37, Try.ntmps37
      go_wp2_with fail
      go_ret
      exact ⟨by rw [d2, d4, Bool.false_or, Bool.false_or]; congr 3; simp; omega, rfl⟩

theorem pend20 (A : Option Addr) (c : Nat) (B : Option Addr) (d : Nat) (w : World) (hs : KS.Rd w A 2 V20) (hi : KI.Rd w B 3 I20) :
    Calls Try.prog 45 #[.slice A 2 c, .slice B 3 d, .int .u8 255] w fun e w' => ∃ b o c', e = .returned (.slice (some ⟨b, o, none⟩) 3 c') ∧ KO.Rd w' (some ⟨b, o, none⟩) 3 P20 ∧ 3 ≤ c' ∧
      (∀ w2, New w' w2 → w2.cell? ⟨b, o, none⟩ = some (.int .u8 3) ∧ w2.cell? ⟨b, o + 2, none⟩ = some (.int .u32 7) ∧ w2.cell? ⟨b, o + 12 + 2, none⟩ = some (.int .u32 4) ∧ w2.cell? ⟨b, o + 24 + 2, none⟩ = some (.int .u32 3)) ∧ New w w' := by
  refine (vpend_any A c V20 B d I20 255 (by decide) (by decide) (by decide) (by decide) (sortOk_small _ (by decide)) w hs hi rfl rfl).mono ?_
  rintro e w1 ⟨v, rfl, hv, hb⟩
  rw [p20] at hv
  obtain ⟨A2, c2, rfl, hc2, hr2⟩ := hv.rd
  have hr0 := hr2
  obtain ⟨b, o, rfl, hbb, hc⟩ := hr2.2 (by decide)
  refine ⟨b, o, c2, rfl, hr0, hc2, fun w2 h2 => ⟨?_, ?_, ?_, ?_⟩, hb⟩
  · exact (h2.cell (p := ⟨b, _, none⟩) hbb).trans ((hc 0 (by decide) 0 (by decide)).trans rfl)
  · exact (h2.cell (p := ⟨b, _, none⟩) hbb).trans ((hc 0 (by decide) 2 (by decide)).trans rfl)
  · exact (h2.cell (p := ⟨b, _, none⟩) hbb).trans ((hc 1 (by decide) 2 (by decide)).trans rfl)
  · exact (h2.cell (p := ⟨b, _, none⟩) hbb).trans ((hc 2 (by decide) 2 (by decide)).trans rfl)
theorem first20 (A : Option Addr) (c : Nat) (w : World) (hc : 3 ≤ c) (h : KO.Rd w A 3 P20) :
    Calls Try.prog 62 #[.slice A 3 c, .int .i64 2] w fun e w' => ∃ A2 c2, e = .returned (.tuple #[.slice A2 2 c2, .bool true]) ∧ New w w' := by
  refine (first_any A 3 c P20 2 w h hc (by decide)).mono ?_
  rintro e w1 ⟨v, rfl, hv, hb⟩
  obtain ⟨A2, c2, rfl, _⟩ := hv.form
  exact ⟨A2, c2, rfl, hb⟩
theorem told20 (A : Option Addr) (c : Nat) (B : Option Addr) (d : Nat) (O : Option Addr) (oc : Nat) (w : World) (hs : KS.Rd w A 2 V20) (hi : KI.Rd w B 3 I20) (ho : KO.Rd w O 3 P20) :
    Calls Try.prog 44 #[.slice A 2 c, .slice B 3 d, .slice O 3 oc] w fun e w' => ∃ A2 c2, e = .returned (.slice A2 3 c2) ∧ KS.Rd w' A2 3 T20 ∧ New w w' := by
  refine (vtold_any A c V20 B d I20 O oc P20 (by decide) (by decide) w hs hi ho rfl rfl).mono ?_
  rintro e w1 ⟨v, rfl, hv, hb⟩
  rw [t20] at hv
  obtain ⟨A2, c2, rfl, hc2, hr2⟩ := hv.rd
  exact ⟨A2, c2, rfl, hr2, hb⟩
theorem set20 (A : Option Addr) (c : Nat) (w : World) (hs : KS.Rd w A 2 V20) :
    Calls Try.prog 40 #[.slice A 2 c, .int .u32 7, .int .u64 9] w fun e w' => ∃ A2 c2, e = .returned (.slice A2 2 c2) ∧ KS.Rd w' A2 2 (setS V20 7 9) ∧ New w w' := by
  refine (vset_any A 2 c V20 7 9 w hs (by decide)).mono ?_
  rintro e w1 ⟨v, rfl, hv, hb⟩
  obtain ⟨A2, c2, rfl, hc2, hr2⟩ := hv.rd
  exact ⟨A2, c2, rfl, hr2, hb⟩
theorem of20 (A : Option Addr) (c : Nat) (w : World) (hs : KS.Rd w A 2 (setS V20 7 9)) :
    Calls Try.prog 39 #[.slice A 2 c, .int .u32 7] w fun e w' => e = .returned (.tuple #[.int .u64 9, .bool true]) ∧ New w w' := vof_any A 2 c (setS V20 7 9) 7 w hs (by decide)
theorem same20 (A : Option Addr) (c : Nat) (B : Option Addr) (d : Nat) (w : World) (ha : KS.Rd w A 3 T20) (hb : KS.Rd w B 3 T20) :
    Calls Try.prog 34 #[.slice A 3 c, .slice B 3 d] w fun e w' => e = .returned (.bool true) ∧ New w w' := by
  have := rvsame_any A 3 c T20 B 3 d T20 w ha hb (by decide) (by decide)
  rwa [decide_eq_true rfl] at this
set_option maxHeartbeats 1600000 in
set_option maxRecDepth 100000 in
theorem lives20 (w : World) : Calls Try.prog 38 #[] w fun e w' => e = .returned (.bool true) ∧ New w w' := by
  have hN := New.rfl' w
  go_enter Try.func38, Try.ntmps38
  have hcell : ∀ w' : World, New w w' → True := fun _ _ => trivial
  have hP := trivial
  go_wp2_with (first
    | (go_at_call 60; refine (seen_any _).mono ?_; rintro e w1 ⟨v, rfl, hv, hb⟩; obtain ⟨As, cs, rfl, -, hs⟩ := hv.rd; clear hv; have hN := hN.call hb; have hP := (hP.new hb); have hT := hT.new hb; have hcell := fun w2 h => hcell w2 (New.call hb h); clear hb)
    | (go_at_call 60; refine (seen_any _).mono ?_; rintro e w1 ⟨v, rfl, hv, hb⟩; obtain ⟨As, cs, rfl, -, hs⟩ := hv.rd; clear hv; have hN := hN.call hb; have hP := (hP.new hb); have hcell := fun w2 h => hcell w2 (New.call hb h); clear hb)
    | (go_at_call 60; refine (seen_any _).mono ?_; rintro e w1 ⟨v, rfl, hv, hb⟩; obtain ⟨As, cs, rfl, -, hs⟩ := hv.rd; clear hv; have hN := hN.call hb; clear hb)
    | (go_at_call 61; refine (items20_any _).mono ?_; rintro e w1 ⟨v, rfl, hv, hb⟩; obtain ⟨Ai, ci, rfl, -, hi⟩ := hv.rd; clear hv; have hN := hN.call hb; have hs := hs.new hb; have hP := (hP.new hb); have hcell := fun w2 h => hcell w2 (New.call hb h); clear hb)
    | (go_at_call 61; refine (items20_any _).mono ?_; rintro e w1 ⟨v, rfl, hv, hb⟩; obtain ⟨Ai, ci, rfl, -, hi⟩ := hv.rd; clear hv; have hN := hN.call hb; have hs := hs.new hb; clear hb)
    | (go_at_call 45; refine (pend20 _ _ _ _ _ hs hi).mono ?_; rintro e w1 ⟨bP, oP, cP, rfl, hP, hcP, hcell, hb⟩; have hN := hN.call hb; clear hb)
    | (go_at_call 62; refine (first20 _ _ _ hcP hP).mono ?_; rintro e w1 ⟨Af, cf, rfl, hb⟩; have hN := hN.call hb; have hP := (hP.new hb); have hcell := fun w2 h => hcell w2 (New.call hb h); clear hb)
    | (go_at_call 44; refine (told20 _ _ _ _ _ _ _ hs hi hP).mono ?_; rintro e w1 ⟨At, ct, rfl, hT, hb⟩; have hN := hN.call hb; have hP := hP.new hb; have hcell := fun w2 h => hcell w2 (New.call hb h); clear hb)
    | (go_at_call 40; refine (set20 _ _ _ hs).mono ?_; rintro e w1 ⟨Ae, ce, rfl, hE, hb⟩; have hN := hN.call hb; have hT := hT.new hb; have hcell := fun w2 h => hcell w2 (New.call hb h); clear hb)
    | (go_at_call 39; refine (of20 _ _ _ hE).mono ?_; rintro e w1 ⟨rfl, hb⟩; have hN := hN.call hb; have hT := hT.new hb; have hcell := fun w2 h => hcell w2 (New.call hb h); clear hb; have hR := New.rfl' w1; have q1 := fun w2 (h : New w1 w2) => (hcell w2 h).1; have q2 := fun w2 (h : New w1 w2) => (hcell w2 h).2.1; have q3 := fun w2 (h : New w1 w2) => (hcell w2 h).2.2.1; have q4 := fun w2 (h : New w1 w2) => (hcell w2 h).2.2.2)
    | (go_at_call 34; refine (same20 _ _ _ _ _ (hT.alloc _) (rdlit20 w1 _ (by kernel_rfl) (by kernel_rfl))).mono ?_; rintro e w2 ⟨rfl, hb⟩; have hN2 := (hN.alloc' _).call hb))
  go_ret
  exact ⟨rfl, hN2⟩
end Go.Proofs.Ytkgebhmlogddcaa
/- Contracts: swaps in a row of items; swapRange, rotate. -/
namespace Go.Proofs.Ytkgebhmlogddcaa
open Go.RowKit
set_option linter.unusedSimpArgs false
attribute [local go_sem] rowAt_alloc_at rowAt_alloc_past rowOk_alloc_at rowOk_alloc_past rowAt_drew rowOk_drew setRow_alloc_at setRow_alloc_past rowAt_setRow rowAt_setRow_far rowOk_setRow cell_rowOk frozen_rowOk setCell_rowOk setRow_setRow con_fold con_get con_size con_set set_all none8_cells equalIn_con storeCells_con
attribute [local go_sem] it_size it_0 it_1 it_2 it_3 it_4 it_5 it_6 it_7 it_8 it_9 it_10 it_set0 it_set1 it_set2 it_fold it_zero it_eta it_fill run_storeCells_it
attribute [local go_sem] run_storeCells_it

theorem set_pair (U V W : List It) (x y c d : It) : ((U ++ x :: (V ++ y :: W)).set U.length c).set (U.length + 1 + V.length) d = U ++ c :: (V ++ d :: W) := by
  have h1 : (U ++ x :: (V ++ y :: W)).set U.length c = U ++ c :: (V ++ y :: W) := by
    rw [List.set_append, if_neg (by omega), Nat.sub_self]; rfl
  rw [h1, List.set_append, if_neg (by omega), show U.length + 1 + V.length - U.length = V.length + 1 by omega, List.set_cons_succ, List.set_append, if_neg (by omega), Nat.sub_self]; rfl
theorem set_pair' (U V W : List It) (x y c d : It) : ((U ++ x :: (V ++ y :: W)).set (U.length + 1 + V.length) d).set U.length c = U ++ c :: (V ++ d :: W) := by
  rw [List.set_comm _ _ (by omega), set_pair]
theorem get_one (U W : List It) (x : It) (h : U.length < (U ++ x :: W).length) : (U ++ x :: W)[U.length] = x := by
  rw [List.getElem_append_right (Nat.le_refl _)]; simp
theorem get_two (U V W : List It) (x y : It) (i : Nat) (hi : i = U.length + 1 + V.length) (h : i < (U ++ x :: (V ++ y :: W)).length) : (U ++ x :: (V ++ y :: W))[i] = y := by
  subst hi
  have e : U ++ x :: (V ++ y :: W) = (U ++ x :: V) ++ y :: W := by simp
  have hl : (U ++ x :: V).length = U.length + 1 + V.length := by simp only [List.length_append, List.length_cons]; omega
  have h3 : (U ++ x :: (V ++ y :: W))[U.length + 1 + V.length]? = some y := by
    rw [e, List.getElem?_append_right (by omega), hl, Nat.sub_self]; rfl
  rw [List.getElem?_eq_getElem h] at h3
  exact Option.some.inj h3
theorem own_two {w : World} {base n c g i j : Nat} {U V W : List It} {x y : It} (h : KI.Own w base (.slice (some ⟨g, 0, none⟩) n c) (U ++ x :: (V ++ y :: W))) (hi : i = U.length) (hj : j = U.length + 1 + V.length) :
    (∀ w', New w w' → ∀ k, k < 11 → w'.cell? ⟨g, i * 11 + k, none⟩ = (itA x)[k]?) ∧ (∀ w', New w w' → ∀ k, k < 11 → w'.cell? ⟨g, j * 11 + k, none⟩ = (itA y)[k]?) := by
  have hL : (U ++ x :: (V ++ y :: W)).length = U.length + 1 + V.length + 1 + W.length := by simp only [List.length_append, List.length_cons]; omega
  refine ⟨fun w' hw k hk => ?_, fun w' hw k hk => ?_⟩
  · have := own_it h w' hw i (by omega) k hk
    rwa [show (U ++ x :: (V ++ y :: W))[i]'(by omega) = x from by subst hi; exact get_one _ _ _ _] at this
  · have := own_it h w' hw j (by omega) k hk
    rwa [get_two U V W x y j hj] at this
theorem own_room {w : World} {base n c g i : Nat} {L : List It} (h : KI.Own w base (.slice (some ⟨g, 0, none⟩) n c) L) (hi : i < L.length) : rowOk w g = true ∧ i * 11 + 11 ≤ (rowAt w g).size := by
  obtain ⟨g', eg, e1, e2, -, hok, hsz⟩ := h.spotK (by omega)
  injection eg with eg
  injection eg with eg _ _
  subst eg
  rw [KI_sz] at hsz
  exact ⟨hok, by omega⟩
theorem own_put {w : World} {base n c g i : Nat} {L : List It} (x : It) (h : KI.Own w base (.slice (some ⟨g, 0, none⟩) n c) L) (hi : i < L.length) :
    ∃ W1, (storeCells ⟨g, i * 11, none⟩ (itA x).toList).run Try.prog w = .ok () W1 ∧ KI.Own W1 base (.slice (some ⟨g, 0, none⟩) n c) (L.set i x) ∧ w.grownBy W1 (some g) := by
  obtain ⟨hok, hsz⟩ := own_room h hi
  exact ⟨_, run_storeCells_itk w g i x hok hsz, Kind.Own.putK h x hi, grown_setRow w g _⟩
theorem own_swap {w : World} {base n c g i j : Nat} {U V W : List It} {x y : It} (h : KI.Own w base (.slice (some ⟨g, 0, none⟩) n c) (U ++ x :: (V ++ y :: W))) (hi : i = U.length) (hj : j = U.length + 1 + V.length) :
    ∃ W1 W2, (storeCells ⟨g, i * 11, none⟩ (itA y).toList).run Try.prog w = .ok () W1 ∧ (storeCells ⟨g, j * 11, none⟩ (itA x).toList).run Try.prog W1 = .ok () W2 ∧
      KI.Own W2 base (.slice (some ⟨g, 0, none⟩) n c) (U ++ y :: (V ++ x :: W)) ∧ w.grownBy W2 (some g) := by
  subst hi; subst hj
  obtain ⟨W1, s1, o1, g1⟩ := own_put (i := U.length) y h (by simp only [List.length_append, List.length_cons]; omega)
  obtain ⟨W2, s2, o2, g2⟩ := own_put (i := U.length + 1 + V.length) x o1 (by simp only [List.length_set, List.length_append, List.length_cons]; omega)
  rw [set_pair] at o2
  exact ⟨W1, W2, s1, s2, o2, g1.trans g2⟩
theorem own_swap' {w : World} {base n c g i j : Nat} {U V W : List It} {x y : It} (h : KI.Own w base (.slice (some ⟨g, 0, none⟩) n c) (U ++ x :: (V ++ y :: W))) (hi : i = U.length) (hj : j = U.length + 1 + V.length) :
    ∃ W1 W2, (storeCells ⟨g, j * 11, none⟩ (itA x).toList).run Try.prog w = .ok () W1 ∧ (storeCells ⟨g, i * 11, none⟩ (itA y).toList).run Try.prog W1 = .ok () W2 ∧
      KI.Own W2 base (.slice (some ⟨g, 0, none⟩) n c) (U ++ y :: (V ++ x :: W)) ∧ w.grownBy W2 (some g) := by
  subst hi; subst hj
  obtain ⟨W1, s1, o1, g1⟩ := own_put (i := U.length + 1 + V.length) x h (by simp only [List.length_append, List.length_cons]; omega)
  obtain ⟨W2, s2, o2, g2⟩ := own_put (i := U.length) y o1 (by simp only [List.length_set, List.length_append, List.length_cons]; omega)
  rw [set_pair'] at o2
  exact ⟨W1, W2, s1, s2, o2, g1.trans g2⟩

/-- two rows of one length, the first k of each in the other's place -/
def stS (P X M Y R : List It) (k : Nat) : List It := P ++ (Y.take k ++ X.drop k) ++ M ++ (X.take k ++ Y.drop k) ++ R
theorem stS_zero (P X M Y R : List It) : stS P X M Y R 0 = P ++ X ++ M ++ Y ++ R := by simp [stS]
theorem stS_all (P X M Y R : List It) (n : Nat) (hX : X.length = n) (hY : Y.length = n) : stS P X M Y R n = P ++ Y ++ M ++ X ++ R := by
  simp [stS, List.take_of_length_le (Nat.le_of_eq hX), List.take_of_length_le (Nat.le_of_eq hY), List.drop_of_length_le (Nat.le_of_eq hX), List.drop_of_length_le (Nat.le_of_eq hY)]
theorem stS_step (P X M Y R : List It) (k : Nat) (hx : k < X.length) (hy : k < Y.length) :
    stS P X M Y R k = (P ++ Y.take k) ++ X[k] :: ((X.drop (k + 1) ++ M ++ X.take k) ++ Y[k] :: (Y.drop (k + 1) ++ R)) ∧
    stS P X M Y R (k + 1) = (P ++ Y.take k) ++ Y[k] :: ((X.drop (k + 1) ++ M ++ X.take k) ++ X[k] :: (Y.drop (k + 1) ++ R)) := by
  have e1 : X.drop k = X[k] :: X.drop (k + 1) := List.drop_eq_getElem_cons hx
  have e2 : Y.drop k = Y[k] :: Y.drop (k + 1) := List.drop_eq_getElem_cons hy
  have e3 : X.take (k + 1) = X.take k ++ [X[k]] := List.take_succ_eq_append_getElem hx
  have e4 : Y.take (k + 1) = Y.take k ++ [Y[k]] := List.take_succ_eq_append_getElem hy
  constructor
  · rw [stS, e1, e2]; simp only [List.append_assoc, List.cons_append]
  · rw [stS, e3, e4]; simp only [List.append_assoc, List.cons_append, List.nil_append, List.singleton_append]

set_option maxHeartbeats 3200000 in
set_option maxRecDepth 100000 in
theorem swapR_any (P X M Y R : List It) (a b n N g c : Nat) (w : World) (base : Nat) (ha : P.length = a) (hX : X.length = n) (hY : Y.length = n) (hb : a + n + M.length = b) (hN : b + n ≤ N) (hN2 : N ≤ 1000) (hbR : b + n + R.length = N)
    (h : KI.Own w base (.slice (some ⟨g, 0, none⟩) N c) (P ++ X ++ M ++ Y ++ R)) :
    Calls Try.prog 103 #[.slice (some ⟨g, 0, none⟩) N c, .int .i64 (a : Nat), .int .i64 (b : Nat), .int .i64 (n : Nat), .func (.func 85) #[] #[]] w fun e w' =>
      e = .returned (.tuple #[]) ∧ KI.Own w' base (.slice (some ⟨g, 0, none⟩) N c) (P ++ Y ++ M ++ X ++ R) ∧ w.grownBy w' (some g) := by
  go_enter Try.func103, Try.ntmps103
  go_wp2_with fail
  go_loopw [10] (fun i wr => ∃ k : Nat, k ≤ n ∧ i = .int .i64 (k : Nat) ∧ w.grownBy wr (some g) ∧ KI.Own wr base (.slice (some ⟨g, 0, none⟩) N c) (stS P X M Y R k)) (fun i _ => n - (intOf i).toNat)
  case atStart => exact ⟨0, Nat.zero_le _, rfl, World.grownBy.refl _ _, by rw [stS_zero]; exact h⟩
  case round =>
    obtain ⟨k, hk, rfl, hr, hM⟩ := hrel
    by_cases hlt : k < n
    · obtain ⟨s1, s2⟩ := stS_step P X M Y R k (by omega) (by omega)
      have hUl : a + k = (P ++ Y.take k).length := by rw [List.length_append, List.length_take]; omega
      have hVl : b + k = (P ++ Y.take k).length + 1 + (X.drop (k + 1) ++ M ++ X.take k).length := by simp only [List.length_append, List.length_take, List.length_drop]; omega
      rw [s1] at hM
      have s3 := Lib.hid s2
      clear s1 s2
      generalize X[k] = x at *
      generalize Y[k] = y at *
      generalize P ++ Y.take k = U at *
      generalize X.drop (k + 1) ++ M ++ X.take k = V at *
      generalize Y.drop (k + 1) ++ R = Z at *
      have hMd : KI.Own wr.drew base (.slice (some ⟨g, 0, none⟩) N c) (U ++ x :: (V ++ y :: Z)) := hM
      obtain ⟨W1, W2, hst1, hst2, hM2, hg2⟩ := own_swap hMd hUl hVl
      obtain ⟨hcx, hcy⟩ := own_two hM hUl hVl
      have hcx0 : ∀ w', New wr w' → w'.cell? ⟨g, (a + k) * 11, none⟩ = (itA x)[0]? := fun w' hw => hcx w' hw 0 (by decide)
      have hcy0 : ∀ w', New wr w' → w'.cell? ⟨g, (b + k) * 11, none⟩ = (itA y)[0]? := fun w' hw => hcy w' hw 0 (by decide)
      have hg3 : w.grownBy W2 (some g) := hr.trans ⟨hg2.os, hg2.tape, hg2.output, hg2.size, hg2.block⟩
      have iw1 : IntKind.i64.wrap ((a : Int) + (k : Int)) = ((a + k : Nat) : Int) := by rw [IntKind.wrap_i64]; omega
      have iw2 : IntKind.i64.wrap ((b : Int) + (k : Int)) = ((b + k : Nat) : Int) := by rw [IntKind.wrap_i64]; omega
      have ia : a + k < N := by omega
      have ib : b + k < N := by omega
      have hrr := New.rfl' wr
      have hrd := New.drew' hrr
      clear hM hMd hUl hVl
      go_wp2_with fail
      go_region
      go_wp2_with fail
      go_roundw
      case rel => exact ⟨k + 1, by omega, by go_num, hg3, by rw [s3.out]; exact hM2⟩
      case measure => simp [intOf]; omega
    · go_wp2_with fail
      go_end0
      obtain rfl : k = n := by omega
      rw [stS_all P X M Y R k hX hY] at hM
      exact ⟨rfl, hM, hr⟩
end Go.Proofs.Ytkgebhmlogddcaa
/- Contracts: rotate. -/
namespace Go.Proofs.Ytkgebhmlogddcaa
open Go.RowKit
set_option linter.unusedSimpArgs false
attribute [local go_sem] rowAt_alloc_at rowAt_alloc_past rowOk_alloc_at rowOk_alloc_past rowAt_drew rowOk_drew setRow_alloc_at setRow_alloc_past rowAt_setRow rowAt_setRow_far rowOk_setRow cell_rowOk frozen_rowOk setCell_rowOk setRow_setRow con_fold con_get con_size con_set set_all none8_cells equalIn_con storeCells_con
attribute [local go_sem] it_size it_0 it_1 it_2 it_3 it_4 it_5 it_6 it_7 it_8 it_9 it_10 it_set0 it_set1 it_set2 it_fold it_zero it_eta it_fill run_storeCells_it

set_option maxHeartbeats 3200000 in
set_option maxRecDepth 100000 in
theorem rot_any (P U V R : List It) (a m b N g c : Nat) (w : World) (base : Nat) (ha : P.length = a) (hm : a + U.length = m) (hb : m + V.length = b) (hbR : b + R.length = N) (hN2 : N ≤ 1000) (hU : 0 < U.length) (hV : 0 < V.length)
    (h : KI.Own w base (.slice (some ⟨g, 0, none⟩) N c) (P ++ U ++ V ++ R)) :
    Calls Try.prog 102 #[.slice (some ⟨g, 0, none⟩) N c, .int .i64 (a : Nat), .int .i64 (m : Nat), .int .i64 (b : Nat), .func (.func 85) #[] #[]] w fun e w' =>
      e = .returned (.tuple #[]) ∧ KI.Own w' base (.slice (some ⟨g, 0, none⟩) N c) (P ++ V ++ U ++ R) ∧ w.grownBy w' (some g) := by
  obtain ⟨u, hu0⟩ : ∃ u, U.length = u := ⟨_, rfl⟩
  obtain ⟨v, hv0⟩ : ∃ v, V.length = v := ⟨_, rfl⟩
  have iw1 : IntKind.i64.wrap ((m : Int) - (a : Int)) = ((u : Nat) : Int) := by rw [IntKind.wrap_i64]; omega
  have iw2 : IntKind.i64.wrap ((b : Int) - (m : Int)) = ((v : Nat) : Int) := by rw [IntKind.wrap_i64]; omega
  have h0 := Lib.hid (And.intro ha (And.intro hm (And.intro hb (And.intro hbR (And.intro hN2 (And.intro hU (And.intro hV (And.intro hu0 hv0))))))))
  have hmN : m ≤ N := by omega
  clear ha hm hb hbR hU hV hu0 hv0
  go_enter Try.func102, Try.ntmps102
  go_wp2_with fail
  go_loopw [10, 11] (fun i j wr => ∃ (P1 U1 V1 R1 : List It) (p x y : Nat), i = .int .i64 (x : Nat) ∧ j = .int .i64 (y : Nat) ∧ Hid (P1.length = p ∧ U1.length = x ∧ V1.length = y ∧ p + x = m ∧ 0 < x ∧ 0 < y ∧ m + y + R1.length = N ∧ P1 ++ V1 ++ U1 ++ R1 = P ++ V ++ U ++ R) ∧ w.grownBy wr (some g) ∧ KI.Own wr base (.slice (some ⟨g, 0, none⟩) N c) (P1 ++ U1 ++ V1 ++ R1)) (fun i j _ => (intOf i).toNat + (intOf j).toNat)
  case atStart => exact ⟨P, U, V, R, a, u, v, rfl, rfl, Lib.hid (by have := h0.out; refine ⟨by omega, by omega, by omega, by omega, by omega, by omega, by omega, rfl⟩), World.grownBy.refl _ _, h⟩
  case round =>
    obtain ⟨P1, U1, V1, R1, p, x, y, rfl, rfl, hq, hr, hM⟩ := hrel
    obtain ⟨q1, q2, q3, q4, q5, q6, q7, -⟩ := hq.out
    have hN3 := h0.out.2.2.2.2.1
    have iw3 : IntKind.i64.wrap ((m : Int) - (x : Int)) = ((p : Nat) : Int) := by rw [IntKind.wrap_i64]; omega
    by_cases hij : x = y
    · have hS := Lib.hid (swapR_any P1 U1 [] V1 R1 p m x N g c wr base q1 q2 (by omega) (by simpa using q4) (by omega) hN2 (by omega) (by simpa using hM))
      subst hij
      clear q1 q2 q3 q4 q5 q6 q7 hM
      go_wp2_with (first
        | (go_at_call 103; refine hS.out.mono ?_; rintro e w2 ⟨rfl, hM2, hg2⟩))
      go_end0
      refine ⟨rfl, ?_, hr.trans hg2⟩
      have := hq.out.2.2.2.2.2.2.2
      rw [List.append_nil, this] at hM2
      exact hM2
    · have hne : ((x : Int) != (y : Int)) = true := by simp; omega
      by_cases hgt : y < x
      · have hgt1 : (y : Int) < (x : Int) := by omega
        have iw4 : IntKind.i64.wrap ((x : Int) - (y : Int)) = ((x - y : Nat) : Int) := by rw [IntKind.wrap_i64]; omega
        have hS := Lib.hid (swapR_any P1 (U1.take y) (U1.drop y) V1 R1 p m y N g c wr base q1 (by rw [List.length_take]; omega) q3 (by rw [List.length_drop]; omega) (by omega) hN2 (by omega) (by simpa using hM))
        clear q1 q2 q3 q4 q5 q6 q7 hM hij hgt
        go_wp2_with (first
          | (go_at_call 103; refine hS.out.mono ?_; rintro e w2 ⟨rfl, hM2, hg2⟩))
        go_roundw
        case rel =>
          obtain ⟨q1, q2, q3, q4, q5, q6, q7, q8⟩ := hq.out
          refine ⟨P1 ++ V1, U1.drop y, U1.take y, R1, p + y, x - y, y, by go_num, rfl, Lib.hid ⟨by rw [List.length_append]; omega, by rw [List.length_drop]; omega, by rw [List.length_take]; omega, by omega, by omega, by omega, by omega, ?_⟩, hr.trans hg2, by simpa using hM2⟩
          rw [← q8]
          simp only [List.append_assoc]
          congr 2
          rw [← List.append_assoc, List.take_append_drop]
        case measure => have := hq.out; simp only [intOf]; omega
      · have hgt1 : ¬ (y : Int) < (x : Int) := by omega
        have iw4 : IntKind.i64.wrap ((y : Int) - (x : Int)) = ((y - x : Nat) : Int) := by rw [IntKind.wrap_i64]; omega
        obtain ⟨t, ht⟩ : ∃ t, m + y - x = t := ⟨_, rfl⟩
        have iw5 : IntKind.i64.wrap ((m : Int) + (y : Int)) = (m : Int) + (y : Int) := by rw [IntKind.wrap_i64]; omega
        have iw6 : IntKind.i64.wrap ((m : Int) + (y : Int) - (x : Int)) = ((t : Nat) : Int) := by rw [IntKind.wrap_i64]; omega
        have hS := Lib.hid (swapR_any P1 U1 (V1.take (y - x)) (V1.drop (y - x)) R1 p t x N g c wr base q1 q2 (by rw [List.length_drop]; omega) (by rw [List.length_take]; omega) (by omega) hN2 (by omega) (by rw [List.append_assoc (P1 ++ U1), List.take_append_drop]; exact hM))
        clear q1 q2 q3 q4 q5 q6 q7 hM hij hgt ht
        go_wp2_with (first
          | (go_at_call 103; refine hS.out.mono ?_; rintro e w2 ⟨rfl, hM2, hg2⟩))
        go_roundw
        case rel =>
          have hxy : x ≠ y := by have h1 := hne; simp only [bne_iff_ne, ne_eq] at h1; omega
          obtain ⟨q1, q2, q3, q4, q5, q6, q7, q8⟩ := hq.out
          refine ⟨P1, V1.drop (y - x), V1.take (y - x), U1 ++ R1, p, x, y - x, rfl, by go_num, Lib.hid ⟨q1, by rw [List.length_drop]; omega, by rw [List.length_take]; omega, by omega, by omega, by omega, by rw [List.length_append]; omega, ?_⟩, hr.trans hg2, by simpa using hM2⟩
          rw [← q8]
          simp only [List.append_assoc]
          congr 1
          rw [← List.append_assoc, List.take_append_drop]
        case measure => have := hq.out; simp only [intOf]; omega
end Go.Proofs.Ytkgebhmlogddcaa
/- Contracts: symMerge where one part is one element. -/
namespace Go.Proofs.Ytkgebhmlogddcaa
open Go.RowKit
set_option linter.unusedSimpArgs false
attribute [local go_sem] rowAt_alloc_at rowAt_alloc_past rowOk_alloc_at rowOk_alloc_past rowAt_drew rowOk_drew setRow_alloc_at setRow_alloc_past rowAt_setRow rowAt_setRow_far rowOk_setRow cell_rowOk frozen_rowOk setCell_rowOk setRow_setRow con_fold con_get con_size con_set set_all none8_cells equalIn_con storeCells_con
attribute [local go_sem] it_size it_0 it_1 it_2 it_3 it_4 it_5 it_6 it_7 it_8 it_9 it_10 it_set0 it_set1 it_set2 it_fold it_zero it_eta it_fill run_storeCells_it

def SymOk (U V : List It) : Prop := ∀ (P R : List It) (a m b N g c : Nat) (w : World) (base : Nat), P.length = a → a + U.length = m → m + V.length = b → b + R.length = N → N ≤ 1000 →
  KI.Own w base (.slice (some ⟨g, 0, none⟩) N c) (P ++ U ++ V ++ R) →
  Calls Try.prog 101 #[.slice (some ⟨g, 0, none⟩) N c, .int .i64 (a : Nat), .int .i64 (m : Nat), .int .i64 (b : Nat), .func (.func 85) #[] #[]] w fun e w' =>
      e = .returned (.tuple #[]) ∧ KI.Own w' base (.slice (some ⟨g, 0, none⟩) N c) (P ++ isort (U ++ V) ++ R) ∧ w.grownBy w' (some g)
theorem own_at {w : World} {base n c g k : Nat} {L : List It} {y : It} (h : KI.Own w base (.slice (some ⟨g, 0, none⟩) n c) L) (hy : L[k]? = some y) :
    ∀ w', New w w' → ∀ j, j < 11 → w'.cell? ⟨g, k * 11 + j, none⟩ = (itA y)[j]? := by
  obtain ⟨hk, e⟩ := List.getElem?_eq_some_iff.1 hy
  intro w' hw j hj
  have := own_it h w' hw k hk j hj
  rwa [e] at this
theorem get_seg (P S R : List It) (a t k : Nat) (ha : P.length = a) (ht : t < S.length) (hk : k = a + t) : (P ++ S ++ R)[k]? = some S[t] := by
  subst hk
  rw [List.append_assoc, List.getElem?_append_right (by omega), show a + t - P.length = t by omega, List.getElem?_append_left ht, List.getElem?_eq_getElem ht]
theorem cmp_neg (a b : Int) : (cmpI a b < 0) ↔ a < b := by
  unfold cmpI; split
  · simp_all
  · rename_i h; split <;> simp [h]

set_option maxHeartbeats 3200000 in
set_option maxRecDepth 100000 in
theorem sym_one (x : It) (V : List It) (hV : V.Pairwise SeqLe) (hv : 0 < V.length) : SymOk [x] V := by
  intro P R a m b N g c w base ha hm hb hbR hN2 h
  rw [List.length_singleton] at hm
  have hpl := lpos_le V x
  have hpi := lpos_iff x hV
  have hres := Lib.hid (isort_front x hV)
  obtain ⟨p, hp0⟩ : ∃ p, lpos V x = p := ⟨_, rfl⟩
  rw [hp0] at hpl hpi hres
  clear hp0
  obtain ⟨z, hz⟩ : ∃ z, m + p = z := ⟨_, rfl⟩
  obtain ⟨zz, hzz⟩ : ∃ zz, a + p = zz := ⟨_, rfl⟩
  have iw1 : IntKind.i64.wrap ((m : Int) - (a : Int)) = 1 := by rw [IntKind.wrap_i64]; omega
  have iw2 : IntKind.i64.wrap ((z : Int) - 1) = (zz : Int) := by rw [IntKind.wrap_i64]; omega
  have hel : ∀ k, m ≤ k → k < b → ∃ y, (P ++ [x] ++ V ++ R)[k]? = some y ∧ (y.2.2.1 < x.2.2.1 ↔ k < z) := fun k h1 h2 => by
    refine ⟨V[k - m]'(by omega), ?_, ?_⟩
    · exact get_seg (P ++ [x]) V R m (k - m) k (by rw [List.length_append, List.length_singleton]; omega) (by omega) (by omega)
    · rw [hpi]; omega
  have hex : (P ++ [x] ++ V ++ R)[a]? = some x := by
    have := get_seg P [x] (V ++ R) a 0 a ha (by simp) (by omega)
    rwa [← List.append_assoc] at this
  have hst0 : P ++ [x] ++ V ++ R = stageI P V R x 0 := by simp [stageI]
  have hT := Lib.hid (And.intro ha (And.intro hm (And.intro hb (And.intro hbR (And.intro hz (And.intro hzz hpl))))))
  have haN : a < N := by omega
  clear ha hm hb hbR hpi hz hzz
  go_enter Try.func101, Try.ntmps101
  go_wp2_with fail
  go_loopw [10, 11] (fun i j wr => ∃ I J : Nat, i = .int .i64 (I : Nat) ∧ j = .int .i64 (J : Nat) ∧ Hid (m ≤ I ∧ I ≤ z ∧ z ≤ J ∧ J ≤ b) ∧ New w wr) (fun i j _ => (intOf j).toNat - (intOf i).toNat)
  case atStart => exact ⟨m, b, rfl, rfl, Lib.hid (by have := hT.out; omega), New.rfl' w⟩
  case round =>
    obtain ⟨I, J, rfl, rfl, hq, hrr⟩ := hrel
    have hTo := hT.out
    have hqo := hq.out
    by_cases hlt : I < J
    · have e1 : ((I : Int) + (J : Int)) / 2 = (((I + J) / 2 : Nat) : Int) := by omega
      have hk1 : I ≤ (I + J) / 2 := by omega
      have hk2 : (I + J) / 2 < J := by omega
      generalize (I + J) / 2 = k at *
      obtain ⟨y, hy1, hy2⟩ := hel k (by omega) (by omega)
      have hc1 := fun w' (hw : New wr w') => own_at h hy1 w' (hrr.trans (hw.mono hrr.size))
      have hc10 : ∀ w', New wr w' → w'.cell? ⟨g, k * 11, none⟩ = (itA y)[0]? := fun w' hw => hc1 w' hw 0 (by decide)
      have hc2 := fun w' (hw : New wr w') => own_at h hex w' (hrr.trans (hw.mono hrr.size))
      have hc20 : ∀ w', New wr w' → w'.cell? ⟨g, a * 11, none⟩ = (itA x)[0]? := fun w' hw => hc2 w' hw 0 (by decide)
      have hlt1 : (I : Int) < (J : Int) := by omega
      have hkN : k < N := by omega
      have hwr := New.rfl' wr
      clear hTo hqo hlt hel
      go_wp2_with fail
      go_region_held3 (fun w' => New wr w') (first | exact New.drew' hwr | exact hwr | exact hr5)
        (first
        | (go_at_call 85; refine (fresh1_any y x _).mono ?_; rintro e w5 ⟨rfl, hb⟩; have hr5 := (New.drew' hwr).call hb; clear hb))
      have hr6 : New w w5 := hrr.trans (hr5.mono hrr.size)
      by_cases hkz : k < z
      · have hng : cmpI y.2.2.1 x.2.2.1 < 0 := (cmp_neg _ _).2 (hy2.2 hkz)
        go_wp2_with fail
        go_roundw
        case rel => exact ⟨k + 1, J, by go_num, rfl, Lib.hid (by have := hq.out; omega), hr6⟩
        case measure => simp [intOf]; omega
      · have hng : ¬ cmpI y.2.2.1 x.2.2.1 < 0 := fun h => hkz (hy2.1 ((cmp_neg _ _).1 h))
        go_wp2_with fail
        go_roundw
        case rel => exact ⟨I, k, rfl, rfl, Lib.hid (by have := hq.out; omega), hr6⟩
        case measure => simp [intOf]; omega
    · obtain rfl : I = z := by omega
      obtain rfl : J = I := by omega
      have h2 := h.new hrr
      rw [hst0] at h2
      have hg0 : w.grownBy wr (some g) := ⟨hrr.os, hrr.tape, hrr.output, hrr.size, fun k hk _ => hrr.block k hk⟩
      clear hTo hqo hlt hel hq hrr hst0 hex
      go_wp2_with fail
      generalize wr = wq at *
      go_loopw [13] (fun k wr => ∃ t K : Nat, k = .int .i64 (K : Nat) ∧ Hid (K = a + t ∧ t ≤ p) ∧ w.grownBy wr (some g) ∧ KI.Own wr base (.slice (some ⟨g, 0, none⟩) N c) (stageI P V R x t)) (fun k _ => zz - (intOf k).toNat)
      case atStart => exact ⟨0, a, rfl, Lib.hid ⟨rfl, Nat.zero_le _⟩, hg0, h2⟩
      case round =>
        obtain ⟨t, K, rfl, hq, hr, hM⟩ := hrel
        have hTo := hT.out
        have hqo := hq.out
        by_cases hlt : t < p
        · obtain ⟨s1, s2⟩ := stageI_split P V R x t (by omega)
          have hUl : K = (P ++ V.take t).length := by rw [List.length_append, List.length_take]; omega
          obtain ⟨y, hy⟩ : ∃ y, V[t]'(by omega) = y := ⟨_, rfl⟩
          rw [hy] at s1 s2
          rw [s2] at hM
          have s3 := Lib.hid s1
          clear s1 s2 hy
          generalize P ++ V.take t = U at *
          generalize V.drop (t + 1) ++ R = Z at *
          have hMd : KI.Own wr.drew base (.slice (some ⟨g, 0, none⟩) N c) (U ++ x :: ([] ++ y :: Z)) := hM
          obtain ⟨W1, W2, hst1, hst2, hM2, hg2⟩ := own_swap (j := K + 1) hMd hUl (by rw [List.length_nil]; omega)
          obtain ⟨hcx, hcy⟩ := own_two (j := K + 1) (V := []) hM hUl (by rw [List.length_nil]; omega)
          have hcx0 : ∀ w', New wr w' → w'.cell? ⟨g, K * 11, none⟩ = (itA x)[0]? := fun w' hw => hcx w' hw 0 (by decide)
          have hcy0 : ∀ w', New wr w' → w'.cell? ⟨g, (K + 1) * 11, none⟩ = (itA y)[0]? := fun w' hw => hcy w' hw 0 (by decide)
          have hg3 : w.grownBy W2 (some g) := hr.trans ⟨hg2.os, hg2.tape, hg2.output, hg2.size, hg2.block⟩
          have iw3 : IntKind.i64.wrap ((K : Int) + 1) = (K : Int) + 1 := by rw [IntKind.wrap_i64]; omega
          have i1 : (K : Int) < (zz : Int) := by omega
          have i2 : (K : Int) + 1 < (N : Int) := by omega
          have i3 : K < N := by omega
          have i4 : K + 1 < N := by omega
          have hwr := New.rfl' wr
          have hrd := New.drew' hwr
          clear hM hMd hUl hTo hqo hlt
          go_wp2_with fail
          go_region
          go_wp2_with fail
          go_roundw
          case rel => exact ⟨t + 1, K + 1, by go_num, Lib.hid (by have := hq.out; have := hT.out; omega), hg3, by rw [s3.out]; exact hM2⟩
          case measure => have := hq.out; have := hT.out; simp only [intOf]; omega
        · obtain rfl : t = p := by omega
          have i1 : ¬ (K : Int) < (zz : Int) := by omega
          clear hTo hqo
          go_wp2_with fail
          refine bodyPost_ret (results_none rfl _ _ _) rfl ?_
          refine ⟨rfl, ?_, hr⟩
          rw [hres.out]
          simpa [stageI] using hM
end Go.Proofs.Ytkgebhmlogddcaa
/- Contracts: symMerge where the other part is one element. -/
namespace Go.Proofs.Ytkgebhmlogddcaa
open Go.RowKit
set_option linter.unusedSimpArgs false
attribute [local go_sem] rowAt_alloc_at rowAt_alloc_past rowOk_alloc_at rowOk_alloc_past rowAt_drew rowOk_drew setRow_alloc_at setRow_alloc_past rowAt_setRow rowAt_setRow_far rowOk_setRow cell_rowOk frozen_rowOk setCell_rowOk setRow_setRow con_fold con_get con_size con_set set_all none8_cells equalIn_con storeCells_con
attribute [local go_sem] it_size it_0 it_1 it_2 it_3 it_4 it_5 it_6 it_7 it_8 it_9 it_10 it_set0 it_set1 it_set2 it_fold it_zero it_eta it_fill run_storeCells_it

set_option maxHeartbeats 3200000 in
set_option maxRecDepth 100000 in
theorem sym_two (U : List It) (x : It) (hU : U.Pairwise SeqLe) (hu : 2 ≤ U.length) : SymOk U [x] := by
  intro P R a m b N g c w base ha hm hb hbR hN2 h
  rw [List.length_singleton] at hb
  have hpl := qpos_le U x
  have hpi := fun q (hq : q < U.length) => qpos_iff x hU q hq
  have hres := Lib.hid (isort_back x hU)
  obtain ⟨p, hp0⟩ : ∃ p, qpos U x = p := ⟨_, rfl⟩
  rw [hp0] at hpl hres
  simp only [hp0] at hpi
  clear hp0
  obtain ⟨z, hz⟩ : ∃ z, a + p = z := ⟨_, rfl⟩
  obtain ⟨n0, hn0⟩ : ∃ n0, U.length = n0 := ⟨_, rfl⟩
  have iw0 : IntKind.i64.wrap ((m : Int) - (a : Int)) = (n0 : Int) := by rw [IntKind.wrap_i64]; omega
  have iw00 : ((n0 : Int) == 1) = false := by simp; omega
  have iw1 : IntKind.i64.wrap ((b : Int) - (m : Int)) = 1 := by rw [IntKind.wrap_i64]; omega
  have hel : ∀ k, a ≤ k → k < m → ∃ y, (P ++ U ++ [x] ++ R)[k]? = some y ∧ (x.2.2.1 < y.2.2.1 ↔ z ≤ k) := fun k h1 h2 => by
    refine ⟨U[k - a]'(by omega), ?_, ?_⟩
    · have := get_seg P U ([x] ++ R) a (k - a) k ha (by omega) (by omega)
      rwa [← List.append_assoc] at this
    · rw [hpi (k - a) (by omega)]; omega
  have hex : (P ++ U ++ [x] ++ R)[m]? = some x := by
    exact get_seg (P ++ U) [x] R m 0 m (by rw [List.length_append]; omega) (by simp) (by omega)
  have hst0 : P ++ U ++ [x] ++ R = stageI P U R x U.length := by simp [stageI]
  have hT := Lib.hid (And.intro ha (And.intro hm (And.intro hb (And.intro hbR (And.intro hz (And.intro hn0 hpl))))))
  have haN : m < N := by omega
  clear ha hm hb hbR hpi hz hn0
  go_enter Try.func101, Try.ntmps101
  go_wp2_with fail
  go_loopw [14, 15] (fun i j wr => ∃ I J : Nat, i = .int .i64 (I : Nat) ∧ j = .int .i64 (J : Nat) ∧ Hid (a ≤ I ∧ I ≤ z ∧ z ≤ J ∧ J ≤ m) ∧ New w wr) (fun i j _ => (intOf j).toNat - (intOf i).toNat)
  case atStart => exact ⟨a, m, rfl, rfl, Lib.hid (by have := hT.out; omega), New.rfl' w⟩
  case round =>
    obtain ⟨I, J, rfl, rfl, hq, hrr⟩ := hrel
    have hTo := hT.out
    have hqo := hq.out
    by_cases hlt : I < J
    · have e1 : ((I : Int) + (J : Int)) / 2 = (((I + J) / 2 : Nat) : Int) := by omega
      have hk1 : I ≤ (I + J) / 2 := by omega
      have hk2 : (I + J) / 2 < J := by omega
      generalize (I + J) / 2 = k at *
      obtain ⟨y, hy1, hy2⟩ := hel k (by omega) (by omega)
      have hc1 := fun w' (hw : New wr w') => own_at h hy1 w' (hrr.trans (hw.mono hrr.size))
      have hc10 : ∀ w', New wr w' → w'.cell? ⟨g, k * 11, none⟩ = (itA y)[0]? := fun w' hw => hc1 w' hw 0 (by decide)
      have hc2 := fun w' (hw : New wr w') => own_at h hex w' (hrr.trans (hw.mono hrr.size))
      have hc20 : ∀ w', New wr w' → w'.cell? ⟨g, m * 11, none⟩ = (itA x)[0]? := fun w' hw => hc2 w' hw 0 (by decide)
      have hlt1 : (I : Int) < (J : Int) := by omega
      have hkN : k < N := by omega
      have hwr := New.rfl' wr
      clear hTo hqo hlt hel
      go_wp2_with fail
      go_region_held3 (fun w' => New wr w') (first | exact New.drew' hwr | exact hwr | exact hr5)
        (first
        | (go_at_call 85; refine (fresh1_any x y _).mono ?_; rintro e w5 ⟨rfl, hb⟩; have hr5 := (New.drew' hwr).call hb; clear hb))
      have hr6 : New w w5 := hrr.trans (hr5.mono hrr.size)
      by_cases hkz : z ≤ k
      · have hng : cmpI x.2.2.1 y.2.2.1 < 0 := (cmp_neg _ _).2 (hy2.2 hkz)
        have hnd : (!decide (cmpI x.2.2.1 y.2.2.1 < 0)) = false := by rw [decide_eq_true hng]; rfl
        rw [hnd]
        go_wp2_with fail
        go_roundw
        case rel => exact ⟨I, k, rfl, rfl, Lib.hid (by have := hq.out; omega), hr6⟩
        case measure => simp [intOf]; omega
      · have hng : ¬ cmpI x.2.2.1 y.2.2.1 < 0 := fun h => hkz (hy2.1 ((cmp_neg _ _).1 h))
        have hnd : (!decide (cmpI x.2.2.1 y.2.2.1 < 0)) = true := by rw [decide_eq_false hng]; rfl
        rw [hnd]
        go_wp2_with fail
        go_roundw
        case rel => exact ⟨k + 1, J, by go_num, rfl, Lib.hid (by have := hq.out; omega), hr6⟩
        case measure => simp [intOf]; omega
    · obtain rfl : I = z := by omega
      obtain rfl : J = I := by omega
      have h2 := h.new hrr
      rw [hst0] at h2
      have hg0 : w.grownBy wr (some g) := ⟨hrr.os, hrr.tape, hrr.output, hrr.size, fun k hk _ => hrr.block k hk⟩
      clear hTo hqo hlt hel hq hrr hst0 hex
      go_wp2_with fail
      generalize wr = wq at *
      go_loopw [17] (fun k wr => ∃ t K : Nat, k = .int .i64 (K : Nat) ∧ Hid (K = a + t ∧ p ≤ t ∧ t ≤ U.length) ∧ w.grownBy wr (some g) ∧ KI.Own wr base (.slice (some ⟨g, 0, none⟩) N c) (stageI P U R x t)) (fun k _ => (intOf k).toNat)
      case atStart => exact ⟨U.length, m, rfl, Lib.hid (by have := hT.out; omega), hg0, h2⟩
      case round =>
        obtain ⟨t, K, rfl, hq, hr, hM⟩ := hrel
        have hTo := hT.out
        have hqo := hq.out
        by_cases hlt : p < t
        · obtain ⟨t, rfl⟩ : ∃ s, t = s + 1 := ⟨t - 1, by omega⟩
          obtain ⟨s1, s2⟩ := stageI_split P U R x t (by omega)
          obtain ⟨K1, hK1⟩ : ∃ K1, K = K1 + 1 := ⟨K - 1, by omega⟩
          have hUl : K1 = (P ++ U.take t).length := by rw [List.length_append, List.length_take]; omega
          obtain ⟨y, hy⟩ : ∃ y, U[t]'(by omega) = y := ⟨_, rfl⟩
          rw [hy] at s1 s2
          rw [s1] at hM
          have s3 := Lib.hid s2
          clear s1 s2 hy
          generalize P ++ U.take t = F at *
          generalize U.drop (t + 1) ++ R = Z at *
          have hMd : KI.Own wr.drew base (.slice (some ⟨g, 0, none⟩) N c) (F ++ y :: ([] ++ x :: Z)) := hM
          obtain ⟨W1, W2, hst1, hst2, hM2, hg2⟩ := own_swap' (j := K1 + 1) hMd hUl (by rw [List.length_nil]; omega)
          obtain ⟨hcx, hcy⟩ := own_two (j := K1 + 1) (V := []) hM hUl (by rw [List.length_nil]; omega)
          have hcx0 : ∀ w', New wr w' → w'.cell? ⟨g, K1 * 11, none⟩ = (itA y)[0]? := fun w' hw => hcx w' hw 0 (by decide)
          have hcy0 : ∀ w', New wr w' → w'.cell? ⟨g, (K1 + 1) * 11, none⟩ = (itA x)[0]? := fun w' hw => hcy w' hw 0 (by decide)
          have hg3 : w.grownBy W2 (some g) := hr.trans ⟨hg2.os, hg2.tape, hg2.output, hg2.size, hg2.block⟩
          have hKc : (K : Int) = (K1 : Int) + 1 := by omega
          have iw3 : IntKind.i64.wrap ((K1 : Int) + 1 - 1) = (K1 : Int) := by rw [IntKind.wrap_i64]; omega
          have iw4 : IntKind.i64.wrap (K1 : Int) = (K1 : Int) := by rw [IntKind.wrap_i64]; omega
          have i1 : (J : Int) < (K1 : Int) + 1 := by omega
          have i2 : (K1 : Int) + 1 < (N : Int) := by omega
          have i3 : K1 < N := by omega
          have i4 : K1 + 1 < N := by omega
          have i5 : (0 : Int) ≤ (K1 : Int) + 1 := by omega
          have hwr := New.rfl' wr
          have hrd := New.drew' hwr
          rw [hKc]
          have hK2 := Lib.hid hK1
          clear hM hMd hUl hTo hqo hlt hKc hK1
          go_wp2_with fail
          go_region
          go_wp2_with fail
          go_roundw
          case rel => exact ⟨t, K1, by go_num, Lib.hid (by have := hq.out; have := hT.out; have := hK2.out; omega), hg3, by rw [s3.out]; exact hM2⟩
          case measure => have := hq.out; have := hT.out; have := hK2.out; simp only [intOf]; omega
        · obtain rfl : t = p := by omega
          have i1 : ¬ (J : Int) < (K : Int) := by omega
          clear hTo hqo
          go_wp2_with fail
          refine bodyPost_ret (results_none rfl _ _ _) rfl ?_
          refine ⟨rfl, ?_, hr⟩
          rw [hres.out]
          simpa [stageI] using hM
end Go.Proofs.Ytkgebhmlogddcaa
/- symMerge: what its parts come to (no walk). -/
namespace Go.Proofs.Ytkgebhmlogddcaa
open Go.RowKit
set_option linter.unusedSimpArgs false

/-- the Seq at a place -/
def sqAt (M : List It) (k : Nat) : Int := ((M[k]?).getD itZ).2.2.1
theorem sqAt_seg (P S R : List It) (a t k : Nat) (ha : P.length = a) (ht : t < S.length) (hk : k = a + t) : sqAt (P ++ S ++ R) k = S[t].2.2.1 := by
  unfold sqAt; rw [get_seg P S R a t k ha ht hk]; rfl
theorem sqAt_some {M : List It} {k : Nat} {y : It} (h : M[k]? = some y) : sqAt M k = y.2.2.1 := by unfold sqAt; rw [h]; rfl
theorem mem_take_le {U : List It} (hU : U.Pairwise SeqLe) (q : Nat) (hq : q < U.length) {x : It} (hx : x ∈ U.take (q + 1)) : x.2.2.1 ≤ U[q].2.2.1 := by
  obtain ⟨i, hi, rfl⟩ := List.mem_iff_getElem.1 hx
  rw [List.length_take] at hi
  rw [List.getElem_take]
  rcases Nat.lt_or_eq_of_le (show i ≤ q by omega) with h | h
  · exact (List.pairwise_iff_getElem.1 hU) i q (by omega) hq h
  · subst h; omega
theorem mem_drop_le {U : List It} (hU : U.Pairwise SeqLe) (q : Nat) (hq : q < U.length) {x : It} (hx : x ∈ U.drop q) : U[q].2.2.1 ≤ x.2.2.1 := by
  obtain ⟨i, hi, rfl⟩ := List.mem_iff_getElem.1 hx
  rw [List.length_drop] at hi
  rw [List.getElem_drop]
  rcases Nat.eq_zero_or_pos i with h | h
  · subst h; simp
  · exact (List.pairwise_iff_getElem.1 hU) q (q + i) hq (by omega) (by omega)

theorem sym_cut (U V P R : List It) (hU : U.Pairwise SeqLe) (hV : V.Pairwise SeqLe) (a m b s e : Nat) (ha : P.length = a) (hm : a + U.length = m) (hb : m + V.length = b) (hs1 : a ≤ s) (hs2 : s ≤ m) (he1 : m ≤ e) (he2 : e ≤ b)
    (C1 : s = a ∨ e = b ∨ sqAt (P ++ U ++ V ++ R) (s - 1) ≤ sqAt (P ++ U ++ V ++ R) e) (C2 : s = m ∨ e = m ∨ sqAt (P ++ U ++ V ++ R) (e - 1) < sqAt (P ++ U ++ V ++ R) s) :
    (∀ x ∈ U.take (s - a), ∀ y ∈ V.drop (e - m), x.2.2.1 ≤ y.2.2.1) ∧ (∀ x ∈ U.drop (s - a), ∀ y ∈ V.take (e - m), y.2.2.1 < x.2.2.1) := by
  have sU : ∀ t k, k = a + t → (ht : t < U.length) → sqAt (P ++ U ++ V ++ R) k = U[t].2.2.1 := fun t k hk ht => by
    have := sqAt_seg P U (V ++ R) a t k ha ht hk
    rwa [← List.append_assoc] at this
  have sV : ∀ t k, k = m + t → (ht : t < V.length) → sqAt (P ++ U ++ V ++ R) k = V[t].2.2.1 := fun t k hk ht =>
    sqAt_seg (P ++ U) V R m t k (by rw [List.length_append]; omega) ht hk
  constructor
  · intro x hx y hy
    rcases C1 with h | h | h
    · subst h; rw [Nat.sub_self] at hx; simp at hx
    · rw [List.drop_of_length_le (by omega)] at hy; cases hy
    · by_cases h1 : s = a
      · subst h1; rw [Nat.sub_self] at hx; simp at hx
      by_cases h2 : e = b
      · rw [List.drop_of_length_le (by omega)] at hy; cases hy
      rw [sU (s - 1 - a) (s - 1) (by omega) (by omega), sV (e - m) e (by omega) (by omega)] at h
      have e1 := mem_take_le hU (s - 1 - a) (by omega) (x := x) (by rwa [show s - 1 - a + 1 = s - a by omega])
      have e2 := mem_drop_le hV (e - m) (by omega) hy
      omega
  · intro x hx y hy
    rcases C2 with h | h | h
    · rw [List.drop_of_length_le (by omega)] at hx; cases hx
    · subst h; rw [Nat.sub_self] at hy; simp at hy
    · by_cases h1 : s = m
      · rw [List.drop_of_length_le (by omega)] at hx; cases hx
      by_cases h2 : e = m
      · subst h2; rw [Nat.sub_self] at hy; simp at hy
      rw [sV (e - 1 - m) (e - 1) (by omega) (by omega), sU (s - a) s (by omega) (by omega)] at h
      have e1 := mem_take_le hV (e - 1 - m) (by omega) (x := y) (by rwa [show e - 1 - m + 1 = e - m by omega])
      have e2 := mem_drop_le hU (s - a) (by omega) hx
      omega

theorem sym_parts (U V P R : List It) (hU : U.Pairwise SeqLe) (hV : V.Pairwise SeqLe)
    (IH : ∀ U' V' : List It, U'.Pairwise SeqLe → V'.Pairwise SeqLe → 0 < U'.length → 0 < V'.length → U'.length + V'.length < U.length + V.length → SymOk U' V')
    (a m b N g c mid s e : Nat) (base : Nat) (ha : P.length = a) (hm : a + U.length = m) (hb : m + V.length = b) (hbR : b + R.length = N) (hN2 : N ≤ 1000)
    (hs1 : a ≤ s) (hs2 : s ≤ m) (he1 : m ≤ e) (he2 : e ≤ b) (he : e + s = mid + m) (hmid1 : a < mid) (hmid2 : mid < b)
    (C1 : s = a ∨ e = b ∨ sqAt (P ++ U ++ V ++ R) (s - 1) ≤ sqAt (P ++ U ++ V ++ R) e) (C2 : s = m ∨ e = m ∨ sqAt (P ++ U ++ V ++ R) (e - 1) < sqAt (P ++ U ++ V ++ R) s) :
    ∃ T1 T2 T3 : World → Prop,
      (s < m → m < e → ∀ w, KI.Own w base (.slice (some ⟨g, 0, none⟩) N c) (P ++ U ++ V ++ R) →
        Calls Try.prog 102 #[.slice (some ⟨g, 0, none⟩) N c, .int .i64 (s : Nat), .int .i64 (m : Nat), .int .i64 (e : Nat), .func (.func 85) #[] #[]] w fun e w' => e = .returned (.tuple #[]) ∧ T1 w' ∧ w.grownBy w' (some g)) ∧
      (¬ (s < m ∧ m < e) → ∀ w, KI.Own w base (.slice (some ⟨g, 0, none⟩) N c) (P ++ U ++ V ++ R) → T1 w) ∧
      (a < s → m < e → ∀ w, T1 w →
        Calls Try.prog 101 #[.slice (some ⟨g, 0, none⟩) N c, .int .i64 (a : Nat), .int .i64 (s : Nat), .int .i64 (mid : Nat), .func (.func 85) #[] #[]] w fun e w' => e = .returned (.tuple #[]) ∧ T2 w' ∧ w.grownBy w' (some g)) ∧
      (¬ (a < s ∧ m < e) → ∀ w, T1 w → T2 w) ∧
      (s < m → e < b → ∀ w, T2 w →
        Calls Try.prog 101 #[.slice (some ⟨g, 0, none⟩) N c, .int .i64 (mid : Nat), .int .i64 (e : Nat), .int .i64 (b : Nat), .func (.func 85) #[] #[]] w fun e w' => e = .returned (.tuple #[]) ∧ T3 w' ∧ w.grownBy w' (some g)) ∧
      (¬ (s < m ∧ e < b) → ∀ w, T2 w → T3 w) ∧
      (∀ w, T3 w → KI.Own w base (.slice (some ⟨g, 0, none⟩) N c) (P ++ isort (U ++ V) ++ R)) := by
  obtain ⟨F1, F2⟩ := sym_cut U V P R hU hV a m b s e ha hm hb hs1 hs2 he1 he2 C1 C2
  have uA : U.take (s - a) ++ U.drop (s - a) = U := List.take_append_drop _ _
  have uB : V.take (e - m) ++ V.drop (e - m) = V := List.take_append_drop _ _
  have lA1 : (U.take (s - a)).length = s - a := by rw [List.length_take]; omega
  have lA2 : (U.drop (s - a)).length = m - s := by rw [List.length_drop]; omega
  have lB1 : (V.take (e - m)).length = e - m := by rw [List.length_take]; omega
  have lB2 : (V.drop (e - m)).length = b - e := by rw [List.length_drop]; omega
  have lUV : U.length + V.length = b - a := by omega
  generalize U.take (s - a) = A1 at *
  generalize U.drop (s - a) = A2 at *
  generalize V.take (e - m) = B1 at *
  generalize V.drop (e - m) = B2 at *
  have hUV : U ++ V = A1 ++ A2 ++ (B1 ++ B2) := by rw [uA, uB]
  have hM0 : P ++ U ++ V ++ R = (P ++ A1) ++ A2 ++ B1 ++ (B2 ++ R) := by rw [← uA, ← uB]; simp only [List.append_assoc]
  rw [← uA] at hU
  rw [← uB] at hV
  have pU := List.pairwise_append.1 hU
  have pV := List.pairwise_append.1 hV
  refine ⟨fun w => KI.Own w base (.slice (some ⟨g, 0, none⟩) N c) (P ++ A1 ++ B1 ++ (A2 ++ B2 ++ R)), fun w => KI.Own w base (.slice (some ⟨g, 0, none⟩) N c) (P ++ isort (A1 ++ B1) ++ (A2 ++ B2 ++ R)), fun w => KI.Own w base (.slice (some ⟨g, 0, none⟩) N c) (P ++ isort (A1 ++ B1) ++ isort (A2 ++ B2) ++ R), ?_, ?_, ?_, ?_, ?_, ?_, ?_⟩
  · intro h1 h2 w h
    rw [hM0] at h
    refine (rot_any (P ++ A1) A2 B1 (B2 ++ R) s m e N g c w base (by rw [List.length_append]; omega) (by omega) (by omega) (by rw [List.length_append]; omega) hN2 (by omega) (by omega) h).mono ?_
    rintro e w' ⟨rfl, k1, k2⟩
    exact ⟨rfl, by simpa only [List.append_assoc] using k1, k2⟩
  · intro h1 w h
    rw [hM0] at h
    have : A2 ++ B1 = B1 ++ A2 := by
      rcases Nat.lt_or_ge s m with h2 | h2
      · rw [List.eq_nil_of_length_eq_zero (show B1.length = 0 by omega)]; simp
      · rw [List.eq_nil_of_length_eq_zero (show A2.length = 0 by omega)]; simp
    have e2 : (P ++ A1) ++ A2 ++ B1 ++ (B2 ++ R) = P ++ A1 ++ B1 ++ (A2 ++ B2 ++ R) := by
      rw [List.append_assoc (P ++ A1), this]; simp only [List.append_assoc]
    rw [e2] at h
    exact h
  · intro h1 h2 w h
    exact IH A1 B1 pU.1 pV.1 (by omega) (by omega) (by omega) P (A2 ++ B2 ++ R) a s mid N g c w base ha (by omega) (by omega) (by simp only [List.length_append]; omega) hN2 h
  · intro h1 w h
    have : isort (A1 ++ B1) = A1 ++ B1 := by
      rcases Nat.lt_or_ge a s with h2 | h2
      · rw [List.eq_nil_of_length_eq_zero (show B1.length = 0 by omega), List.append_nil]; exact isort_id pU.1
      · rw [List.eq_nil_of_length_eq_zero (show A1.length = 0 by omega), List.nil_append]; exact isort_id pV.1
    show KI.Own w base _ (P ++ isort (A1 ++ B1) ++ (A2 ++ B2 ++ R))
    rw [this]
    simpa only [List.append_assoc] using h
  · intro h1 h2 w h
    have h : KI.Own w base (.slice (some ⟨g, 0, none⟩) N c) ((P ++ isort (A1 ++ B1)) ++ A2 ++ B2 ++ R) := by simpa only [List.append_assoc] using h
    refine (IH A2 B2 pU.2.1 pV.2.1 (by omega) (by omega) (by omega) (P ++ isort (A1 ++ B1)) R mid e b N g c w base (by rw [List.length_append, isort_len, List.length_append]; omega) (by omega) (by omega) hbR hN2 h).mono ?_
    rintro e w' ⟨rfl, k1, k2⟩
    exact ⟨rfl, by simpa only [List.append_assoc] using k1, k2⟩
  · intro h1 w h
    have : isort (A2 ++ B2) = A2 ++ B2 := by
      rcases Nat.lt_or_ge s m with h2 | h2
      · rw [List.eq_nil_of_length_eq_zero (show B2.length = 0 by omega), List.append_nil]; exact isort_id pU.2.1
      · rw [List.eq_nil_of_length_eq_zero (show A2.length = 0 by omega), List.nil_append]; exact isort_id pV.2.1
    show KI.Own w base _ (P ++ isort (A1 ++ B1) ++ isort (A2 ++ B2) ++ R)
    rw [this]
    simpa only [List.append_assoc] using h
  · intro w h
    rw [hUV, ← merge_law A1 A2 B1 B2 hU hV F1 F2]
    simpa only [List.append_assoc] using h
end Go.Proofs.Ytkgebhmlogddcaa
/- Contracts: symMerge. -/
namespace Go.Proofs.Ytkgebhmlogddcaa
open Go.RowKit
set_option linter.unusedSimpArgs false
attribute [local go_sem] rowAt_alloc_at rowAt_alloc_past rowOk_alloc_at rowOk_alloc_past rowAt_drew rowOk_drew setRow_alloc_at setRow_alloc_past rowAt_setRow rowAt_setRow_far rowOk_setRow cell_rowOk frozen_rowOk setCell_rowOk setRow_setRow con_fold con_get con_size con_set set_all none8_cells equalIn_con storeCells_con
attribute [local go_sem] it_size it_0 it_1 it_2 it_3 it_4 it_5 it_6 it_7 it_8 it_9 it_10 it_set0 it_set1 it_set2 it_fold it_zero it_eta it_fill run_storeCells_it

set_option maxHeartbeats 8000000 in
set_option maxRecDepth 100000 in
theorem sym_gen (U V : List It) (hU : U.Pairwise SeqLe) (hV : V.Pairwise SeqLe) (hu : 2 ≤ U.length) (hv : 2 ≤ V.length)
    (IH : ∀ U' V' : List It, U'.Pairwise SeqLe → V'.Pairwise SeqLe → 0 < U'.length → 0 < V'.length → U'.length + V'.length < U.length + V.length → SymOk U' V') : SymOk U V := by
  intro P R a m b N g c w base ha hm hb hbR hN2 h
  obtain ⟨mid, hmid⟩ : ∃ mid, (a + b) / 2 = mid := ⟨_, rfl⟩
  obtain ⟨n, hn⟩ : ∃ n, mid + m = n := ⟨_, rfl⟩
  obtain ⟨pp, hpp⟩ : ∃ pp, n - 1 = pp := ⟨_, rfl⟩
  obtain ⟨u, hu0⟩ : ∃ u, U.length = u := ⟨_, rfl⟩
  obtain ⟨v, hv0⟩ : ∃ v, V.length = v := ⟨_, rfl⟩
  have iw1 : IntKind.i64.wrap ((m : Int) - (a : Int)) = (u : Int) := by rw [IntKind.wrap_i64]; omega
  have iw1b : ((u : Int) == 1) = false := by simp; omega
  have iw2 : IntKind.i64.wrap ((b : Int) - (m : Int)) = (v : Int) := by rw [IntKind.wrap_i64]; omega
  have iw2b : ((v : Int) == 1) = false := by simp; omega
  have e1 : ((a : Int) + (b : Int)) / 2 = (mid : Int) := by omega
  have iw3 : IntKind.i64.wrap ((mid : Int) + (m : Int)) = (n : Int) := by rw [IntKind.wrap_i64]; omega
  have iw4 : IntKind.i64.wrap ((n : Int) - 1) = (pp : Int) := by rw [IntKind.wrap_i64]; omega
  obtain ⟨s0, r0, hs0, hcA, hcB⟩ : ∃ s0 r0 : Nat, (a ≤ s0 ∧ s0 ≤ r0 ∧ r0 ≤ m ∧ r0 ≤ mid ∧ n ≤ s0 + b ∧ (s0 = a ∨ s0 + b = n) ∧ (r0 = m ∨ r0 = mid)) ∧ (mid < m → s0 + b = n ∧ r0 = mid) ∧ (¬ mid < m → s0 = a ∧ r0 = m) := by
    by_cases hmm : mid < m
    · exact ⟨n - b, mid, ⟨by omega, by omega, by omega, by omega, by omega, .inr (by omega), .inr rfl⟩, fun _ => ⟨by omega, rfl⟩, fun h => absurd hmm h⟩
    · exact ⟨a, m, ⟨by omega, by omega, by omega, by omega, by omega, .inl rfl, .inl rfl⟩, fun h => absurd h hmm, fun _ => ⟨rfl, rfl⟩⟩
  have hel : ∀ k, a ≤ k → k < b → ∃ y, (P ++ U ++ V ++ R)[k]? = some y ∧ sqAt (P ++ U ++ V ++ R) k = y.2.2.1 := fun k h1 h2 => by
    have hlen : k < (P ++ U ++ V ++ R).length := by simp only [List.length_append]; omega
    exact ⟨_, List.getElem?_eq_getElem hlen, sqAt_some (List.getElem?_eq_getElem hlen)⟩
  have hpar := fun (s e : Nat) => sym_parts U V P R hU hV IH a m b N g c mid s e base ha hm hb hbR hN2
  have hT := Lib.hid (And.intro ha (And.intro hm (And.intro hb (And.intro hbR (And.intro hmid (And.intro hn (And.intro hpp (And.intro hs0 (And.intro hu0 (And.intro hv0 (And.intro hu hv)))))))))))
  obtain ⟨M, hMM⟩ : ∃ M, P ++ U ++ V ++ R = M := ⟨_, rfl⟩
  rw [hMM] at h hel hpar
  clear hMM
  have hbN : b ≤ N := by omega
  have hbB : b ≤ 1000 := by omega
  have ham : a < m := by omega
  have hmb : m < b := by omega
  have hamid : a < mid := by omega
  have hmidb : mid < b := by omega
  have hnB : n ≤ 2000 := by omega
  have hn1 : 1 ≤ n := by omega
  by_cases hmm : mid < m
  all_goals
    first
      | (have hS := Lib.hid (hcA hmm)
         have hmi : (mid : Int) < (m : Int) := by omega
         have iw5 : IntKind.i64.wrap ((n : Int) - (b : Int)) = (s0 : Int) := by have := hS.out; rw [IntKind.wrap_i64]; omega)
      | (have hS := Lib.hid (hcB hmm)
         have hmi : ¬ (mid : Int) < (m : Int) := by omega)
    clear hcA hcB hmm ha hm hb hbR hmid hn hpp hs0 hu0 hv0
    go_enter Try.func101, Try.ntmps101
    go_wp2_with fail
    go_loopw [20, 21] (fun i j wr => ∃ I J : Nat, i = .int .i64 (I : Nat) ∧ j = .int .i64 (J : Nat) ∧ Hid (s0 ≤ I ∧ I ≤ J ∧ J ≤ r0 ∧ (I = s0 ∨ sqAt M (I - 1) ≤ sqAt M (n - 1 - (I - 1))) ∧ (J = r0 ∨ sqAt M (n - 1 - J) < sqAt M J)) ∧ New w wr) (fun i j _ => (intOf j).toNat - (intOf i).toNat)
    case atStart =>
      have h1 := hS.out
      have h2 := hT.out
      first
      | exact ⟨s0, mid, rfl, rfl, Lib.hid ⟨by omega, by omega, by omega, .inl rfl, .inl (by omega)⟩, New.rfl' w⟩
      | exact ⟨a, m, rfl, rfl, Lib.hid ⟨by omega, by omega, by omega, .inl (by omega), .inl (by omega)⟩, New.rfl' w⟩
  all_goals
    obtain ⟨I, J, rfl, rfl, hq, hrr⟩ := hrel
    have hTo := hT.out
    have hqo := hq.out
    by_cases hlt : I < J
    · have e2 : ((I : Int) + (J : Int)) / 2 = (((I + J) / 2 : Nat) : Int) := by omega
      have hk1 : I ≤ (I + J) / 2 := by omega
      have hk2 : (I + J) / 2 < J := by omega
      generalize (I + J) / 2 = k at *
      obtain ⟨x, hx1, hx2⟩ := hel k (by omega) (by omega)
      obtain ⟨kk, hkk⟩ : ∃ kk, n - 1 - k = kk := ⟨_, rfl⟩
      obtain ⟨y, hy1, hy2⟩ := hel kk (by omega) (by omega)
      have iw6 : IntKind.i64.wrap ((pp : Int) - (k : Int)) = (kk : Int) := by rw [IntKind.wrap_i64]; omega
      have hc1 := fun w' (hw : New wr w') => own_at h hy1 w' (hrr.trans (hw.mono hrr.size))
      have hc10 : ∀ w', New wr w' → w'.cell? ⟨g, kk * 11, none⟩ = (itA y)[0]? := fun w' hw => hc1 w' hw 0 (by decide)
      have hc2 := fun w' (hw : New wr w') => own_at h hx1 w' (hrr.trans (hw.mono hrr.size))
      have hc20 : ∀ w', New wr w' → w'.cell? ⟨g, k * 11, none⟩ = (itA x)[0]? := fun w' hw => hc2 w' hw 0 (by decide)
      have hlt1 : (I : Int) < (J : Int) := by omega
      have hkN : k < N := by omega
      have hkkN : kk < N := by omega
      have hJB : J ≤ 1000 := by omega
      have hwr := New.rfl' wr
      have hkkH := Lib.hid hkk
      clear hTo hqo hlt hel hpar hkk
      go_wp2_with fail
      go_region_held3 (fun w' => New wr w') (first | exact New.drew' hwr | exact hwr | exact hr5)
        (first
        | (go_at_call 85; refine (fresh1_any y x _).mono ?_; rintro e w5 ⟨rfl, hb⟩; have hr5 := (New.drew' hwr).call hb; clear hb))
      have hr6 : New w w5 := hrr.trans (hr5.mono hrr.size)
      by_cases hkz : y.2.2.1 < x.2.2.1
      · have hng : cmpI y.2.2.1 x.2.2.1 < 0 := (cmp_neg _ _).2 hkz
        have hnd : (!decide (cmpI y.2.2.1 x.2.2.1 < 0)) = false := by rw [decide_eq_true hng]; rfl
        rw [hnd]
        go_wp2_with fail
        go_roundw
        case rel => exact ⟨I, k, rfl, rfl, Lib.hid (by have := hq.out; refine ⟨by omega, by omega, by omega, this.2.2.2.1, .inr (by rw [hkkH.out, hx2, hy2]; exact hkz)⟩), hr6⟩
        case measure => simp [intOf]; omega
      · have hng : ¬ cmpI y.2.2.1 x.2.2.1 < 0 := fun h => hkz ((cmp_neg _ _).1 h)
        have hnd : (!decide (cmpI y.2.2.1 x.2.2.1 < 0)) = true := by rw [decide_eq_false hng]; rfl
        rw [hnd]
        go_wp2_with fail
        go_roundw
        case rel => exact ⟨k + 1, J, by go_num, rfl, Lib.hid (by have := hq.out; refine ⟨by omega, by omega, by omega, .inr (by rw [Nat.add_sub_cancel, hkkH.out, hx2, hy2]; omega), this.2.2.2.2⟩), hr6⟩
        case measure => simp [intOf]; omega
    · obtain rfl : J = I := by omega
      obtain ⟨s, rfl⟩ : ∃ s, s = J := ⟨_, rfl⟩
      obtain ⟨e, he⟩ : ∃ e, n - s = e := ⟨_, rfl⟩
      have iw7 : IntKind.i64.wrap ((n : Int) - (s : Int)) = (e : Int) := by rw [IntKind.wrap_i64]; omega
      have C1 : s = a ∨ e = b ∨ sqAt M (s - 1) ≤ sqAt M e := by
        rcases hqo.2.2.2.1 with h1 | h1
        · rcases hTo.2.2.2.2.2.2.2.1.2.2.2.2.2.1 with h2 | h2
          · exact .inl (by omega)
          · exact .inr (.inl (by omega))
        · by_cases h3 : s = 0
          · exact .inl (by omega)
          · exact .inr (.inr (by rw [show n - 1 - (s - 1) = e by omega] at h1; exact h1))
      have C2 : s = m ∨ e = m ∨ sqAt M (e - 1) < sqAt M s := by
        rcases hqo.2.2.2.2 with h1 | h1
        · rcases hTo.2.2.2.2.2.2.2.1.2.2.2.2.2.2 with h2 | h2
          · exact .inl (by omega)
          · exact .inr (.inl (by omega))
        · exact .inr (.inr (by rw [show n - 1 - s = e - 1 by omega] at h1; exact h1))
      obtain ⟨T1, T2, T3, K0, K0', K1, K1', K2, K2', K3⟩ := hpar s e (by omega) (by omega) (by omega) (by omega) (by omega) (by omega) (by omega) C1 C2
      have hHe := Lib.hid (show s + e = mid + m by omega)
      have hM0 := h.new hrr
      have hg : w.grownBy wr (some g) := ⟨hrr.os, hrr.tape, hrr.output, hrr.size, fun k hk _ => hrr.block k hk⟩
      have hsm : s ≤ m := by omega
      have hme : m ≤ e := by omega
      have heb : e ≤ b := by omega
      have has : a ≤ s := by omega
      have hq0 := K0 ; have hq0' := K0'; have hq1 := K1; have hq1' := K1'; have hq2 := K2; have hq2' := K2'
      have G0 := Lib.hid K0; have G1 := Lib.hid K1; have G2 := Lib.hid K2; have G0' := Lib.hid K0'; have G1' := Lib.hid K1'; have G2' := Lib.hid K2'; have G3 := Lib.hid K3
      clear K0 K0' K1 K1' K2 K2' K3 hq0 hq0' hq1 hq1' hq2 hq2' C1 C2 hpar hel he hTo hqo hlt hq h IH hrr
      have hHo := hHe.out
      have i1 : ((s : Int) < (m : Int)) = (s < m) := propext ⟨fun h => by omega, fun h => by omega⟩
      have i2 : ((m : Int) < (e : Int)) = (m < e) := propext ⟨fun h => by omega, fun h => by omega⟩
      have i3 : ((a : Int) < (s : Int)) = (a < s) := propext ⟨fun h => by omega, fun h => by omega⟩
      have i4 : ((s : Int) < (mid : Int)) = (m < e) := propext ⟨fun h => by omega, fun h => by omega⟩
      have i5 : ((mid : Int) < (e : Int)) = (s < m) := propext ⟨fun h => by omega, fun h => by omega⟩
      have i6 : ((e : Int) < (b : Int)) = (e < b) := propext ⟨fun h => by omega, fun h => by omega⟩
      have j4 : (s < mid) = (m < e) := propext ⟨fun h => by omega, fun h => by omega⟩
      have j5 : (mid < e) = (s < m) := propext ⟨fun h => by omega, fun h => by omega⟩
      clear hHo
      by_cases c1 : s < m <;> by_cases c2 : m < e <;> by_cases c3 : a < s <;> by_cases c6 : e < b
      all_goals
        first
        | (exfalso; omega)
        | (try have t1 := G0'.out (by omega) _ hM0
           try have t2 := G1'.out (by omega) _ t1
           try have t3 := G2'.out (by omega) _ t2
           go_wp2_with (first
             | (go_at_call 102; refine (G0.out c1 c2 _ hM0).mono ?_; rintro e' w6 ⟨rfl, t1, hg6⟩; have hg := hg.trans hg6; (try have t2 := G1'.out (by omega) _ t1); (try have t3 := G2'.out (by omega) _ t2))
             | (go_at_call_of 101 s; refine (G1.out c3 c2 _ t1).mono ?_; rintro e' w6 ⟨rfl, t2, hg6⟩; have hg := hg.trans hg6; (try have t3 := G2'.out (by omega) _ t2))
             | (go_at_call_of 101 e; refine (G2.out c1 c6 _ t2).mono ?_; rintro e' w6 ⟨rfl, t3, hg6⟩; have hg := hg.trans hg6))
           first | go_end0 | (trace_state; fail)
           exact ⟨rfl, by simpa only [List.append_assoc] using G3.out _ t3, hg⟩)
end Go.Proofs.Ytkgebhmlogddcaa
/- Contracts: symMerge, and the stable sort of up to 40. -/
namespace Go.Proofs.Ytkgebhmlogddcaa
open Go.RowKit Go.Shelf
set_option linter.unusedSimpArgs false
attribute [local go_sem] rowAt_alloc_at rowAt_alloc_past rowOk_alloc_at rowOk_alloc_past rowAt_drew rowOk_drew setRow_alloc_at setRow_alloc_past rowAt_setRow rowAt_setRow_far rowOk_setRow cell_rowOk frozen_rowOk setCell_rowOk setRow_setRow con_fold con_get con_size con_set set_all none8_cells equalIn_con storeCells_con
attribute [local go_sem] it_size it_0 it_1 it_2 it_3 it_4 it_5 it_6 it_7 it_8 it_9 it_10 it_set0 it_set1 it_set2 it_fold it_zero it_eta it_fill run_storeCells_it

theorem sym_all : ∀ (k : Nat) (U V : List It), U.Pairwise SeqLe → V.Pairwise SeqLe → 0 < U.length → 0 < V.length → U.length + V.length ≤ k → SymOk U V := by
  intro k
  induction k with
  | zero => intro U V _ _ h _ h2; omega
  | succ k ih =>
    intro U V hU hV h1 h2 h3
    by_cases e1 : U.length = 1
    · obtain ⟨x, rfl⟩ := List.length_eq_one_iff.1 e1
      exact sym_one x V hV h2
    by_cases e2 : V.length = 1
    · obtain ⟨x, rfl⟩ := List.length_eq_one_iff.1 e2
      exact sym_two U x hU (by omega)
    exact sym_gen U V hU hV (by omega) (by omega) (fun U' V' a b c d e => ih U' V' a b c d (by omega))
theorem seg_20 (l : List It) : sortSeg l 0 20 = isort (l.take 20) ++ l.drop 20 := by simp [sortSeg]
theorem seg_back (A B : List It) (a n : Nat) (hA : A.length = a) (hn : a + B.length = n) : sortSeg (A ++ B) a n = A ++ isort B := by
  subst hA
  have e1 : (A ++ B).take A.length = A := by simp
  have e2 : (A ++ B).drop A.length = B := by simp
  rw [sortSeg, e1, e2, List.take_of_length_le (by omega), List.drop_of_length_le (by rw [List.length_append]; omega), List.append_nil]
theorem seg_n (l : List It) (n : Nat) (hn : l.length = n) (h : 20 ≤ n) : sortSeg (isort (l.take 20) ++ l.drop 20) 20 n = isort (l.take 20) ++ isort (l.drop 20) :=
  seg_back _ _ _ _ (by rw [isort_len, List.length_take]; omega) (by rw [List.length_drop]; omega)
theorem isort_two (l : List It) : isort (isort (l.take 20) ++ isort (l.drop 20)) = isort l := by
  refine isort_eq (isort_sorted l) ?_
  have h := (isort_stb (l.take 20)).append (isort_stb (l.drop 20))
  rw [List.take_append_drop] at h
  exact (isort_stb l).trans h.symm
/-- the merge of the two halves -/
theorem merge_20 (l : List It) (g c N : Nat) (w : World) (base : Nat) (hN : l.length = N) (h20 : 20 < N) (h40 : N ≤ 40) (h : KI.Own w base (.slice (some ⟨g, 0, none⟩) N c) (isort (l.take 20) ++ isort (l.drop 20))) :
    Calls Try.prog 101 #[.slice (some ⟨g, 0, none⟩) N c, .int .i64 0, .int .i64 20, .int .i64 (N : Nat), .func (.func 85) #[] #[]] w fun e w' =>
      e = .returned (.tuple #[]) ∧ KI.Own w' base (.slice (some ⟨g, 0, none⟩) N c) (isort l) ∧ w.grownBy w' (some g) := by
  have l1 : (isort (l.take 20)).length = 20 := by rw [isort_len, List.length_take]; omega
  have l2 : (isort (l.drop 20)).length = N - 20 := by rw [isort_len, List.length_drop]; omega
  have := sym_all 40 (isort (l.take 20)) (isort (l.drop 20)) (isort_sorted _) (isort_sorted _) (by omega) (by omega) (by omega) [] [] 0 20 N N g c w base rfl (by omega) (by omega) rfl (by omega) (by simpa using h)
  rw [isort_two] at this
  simpa using this
set_option maxHeartbeats 1600000 in
theorem stable_20 (g c : Nat) (l : List It) (w : World) (base : Nat) (hn : l.length = 20) (h : KI.Own w base (.slice (some ⟨g, 0, none⟩) l.length c) l) :
    Calls Try.prog 99 #[.slice (some ⟨g, 0, none⟩) l.length c, .int .i64 (l.length : Nat), .func (.func 85) #[] #[]] w fun e w' => e = .returned (.tuple #[]) ∧ KI.Own w' base (.slice (some ⟨g, 0, none⟩) l.length c) (isort l) ∧ w.grownBy w' (some g) := by
  have hS1 := Lib.hid (fun w (h : KI.Own w base (.slice (some ⟨g, 0, none⟩) l.length c) l) => inssort_any l 0 20 g c w base h (by omega) (by omega) (by omega))
  have hS2 := Lib.hid (fun w (h : KI.Own w base (.slice (some ⟨g, 0, none⟩) l.length c) (isort l)) => by
    have h2 := inssort_any (isort l) 20 l.length g c w base (by rw [isort_len]; exact h) (by omega) (by rw [isort_len]; omega) (by rw [isort_len]; omega)
    rw [show sortSeg (isort l) 20 l.length = isort l by rw [hn]; exact sortSeg_same _ _, isort_len] at h2
    exact h2)
  have hq : sortSeg l 0 20 = isort l := by rw [seg_20 l, List.take_of_length_le (by omega), List.drop_of_length_le (by omega), List.append_nil]
  have hq2 := Lib.hid hq
  clear hq
  generalize l.length = N at *
  have n1 : (20 : Int) ≤ (N : Int) := by omega
  have n2 : ¬ (40 : Int) ≤ (N : Int) := by omega
  have n3 : ¬ (20 : Int) < (N : Int) := by omega
  have hnH := Lib.hid hn
  clear hn
  go_enter Try.func99, Try.ntmps99
  go_wp2_with fail
  go_loopw [7, 8] (fun a b wr => ∃ x y : Nat, a = .int .i64 (x : Nat) ∧ b = .int .i64 (y : Nat) ∧ Hid ((x = 0 ∧ y = 20 ∧ wr = w) ∨ (x = 20 ∧ y = 40 ∧ KI.Own wr base (.slice (some ⟨g, 0, none⟩) N c) (isort l) ∧ w.grownBy wr (some g)))) (fun _ b _ => 60 - (intOf b).toNat)
  case atStart => exact ⟨0, 20, rfl, rfl, Lib.hid (.inl ⟨rfl, rfl, rfl⟩)⟩
  case round =>
    obtain ⟨x, y, rfl, rfl, hxy⟩ := hrel
    rcases hxy.out with ⟨rfl, rfl, rfl⟩ | ⟨rfl, rfl, hv, hg⟩
    · go_wp2_with (first
        | (go_at_call 100; refine (hS1.out _ h).mono ?_; rintro e w1 ⟨rfl, hv1, hg1⟩))
      go_roundw
      case rel => exact ⟨20, 40, by go_num, by go_num, Lib.hid (.inr ⟨rfl, rfl, by rw [← hq2.out]; exact hv1, hg1⟩)⟩
      case measure => simp [intOf]
    · go_wp2_with (first
        | (go_at_call 100; refine (hS2.out _ hv).mono ?_; rintro e w1 ⟨rfl, hv1, hg1⟩))
      go_loopw [6] (fun s wr => s = .int .i64 20 ∧ wr = w1) (fun _ _ => 0)
      case atStart => exact ⟨rfl, rfl⟩
      case round =>
        obtain ⟨rfl, rfl⟩ := hrel
        go_wp2_with fail
        go_end0
        exact ⟨rfl, hv1, hg.trans hg1⟩
set_option maxHeartbeats 1600000 in
theorem stable_mid (g c : Nat) (l : List It) (w : World) (base : Nat) (hn1 : 20 < l.length) (hn2 : l.length < 40) (h : KI.Own w base (.slice (some ⟨g, 0, none⟩) l.length c) l) :
    Calls Try.prog 99 #[.slice (some ⟨g, 0, none⟩) l.length c, .int .i64 (l.length : Nat), .func (.func 85) #[] #[]] w fun e w' => e = .returned (.tuple #[]) ∧ KI.Own w' base (.slice (some ⟨g, 0, none⟩) l.length c) (isort l) ∧ w.grownBy w' (some g) := by
  have hS1 := Lib.hid (fun w (h : KI.Own w base (.slice (some ⟨g, 0, none⟩) l.length c) l) => inssort_any l 0 20 g c w base h (by omega) (by omega) (by omega))
  have hl1 : (isort (l.take 20) ++ l.drop 20).length = l.length := by rw [List.length_append, isort_len, ← List.length_append, List.take_append_drop]
  have hS2 := Lib.hid (fun w (h : KI.Own w base (.slice (some ⟨g, 0, none⟩) l.length c) (isort (l.take 20) ++ l.drop 20)) => by
    have h2 := inssort_any (isort (l.take 20) ++ l.drop 20) 20 l.length g c w base (by rw [hl1]; exact h) (by omega) (by rw [hl1]; omega) (by rw [hl1]; omega)
    rw [seg_n l l.length rfl (by omega), hl1] at h2
    exact h2)
  have hS3 := Lib.hid (fun w => merge_20 l g c l.length w base rfl hn1 (by omega))
  have hq2 := Lib.hid (seg_20 l)
  clear hl1
  generalize isort (l.take 20) ++ l.drop 20 = L1 at *
  generalize isort (l.take 20) ++ isort (l.drop 20) = L2 at *
  generalize l.length = N at *
  have n1 : (20 : Int) ≤ (N : Int) := by omega
  have n2 : ¬ (40 : Int) ≤ (N : Int) := by omega
  have n3 : (20 : Int) < (N : Int) := by omega
  have n4 : ¬ (40 : Int) < (N : Int) := by omega
  have nB : N ≤ 1000 := by omega
  clear hn1 hn2
  go_enter Try.func99, Try.ntmps99
  go_wp2_with fail
  go_loopw [7, 8] (fun a b wr => ∃ x y : Nat, a = .int .i64 (x : Nat) ∧ b = .int .i64 (y : Nat) ∧ Hid ((x = 0 ∧ y = 20 ∧ wr = w) ∨ (x = 20 ∧ y = 40 ∧ KI.Own wr base (.slice (some ⟨g, 0, none⟩) N c) L1 ∧ w.grownBy wr (some g)))) (fun _ b _ => 60 - (intOf b).toNat)
  case atStart => exact ⟨0, 20, rfl, rfl, Lib.hid (.inl ⟨rfl, rfl, rfl⟩)⟩
  case round =>
    obtain ⟨x, y, rfl, rfl, hxy⟩ := hrel
    rcases hxy.out with ⟨rfl, rfl, rfl⟩ | ⟨rfl, rfl, hv, hg⟩
    · go_wp2_with (first
        | (go_at_call 100; refine (hS1.out _ h).mono ?_; rintro e w1 ⟨rfl, hv1, hg1⟩))
      go_roundw
      case rel => exact ⟨20, 40, by go_num, by go_num, Lib.hid (.inr ⟨rfl, rfl, by rw [← hq2.out]; exact hv1, hg1⟩)⟩
      case measure => simp [intOf]
    · go_wp2_with (first
        | (go_at_call 100; refine (hS2.out _ hv).mono ?_; rintro e w1 ⟨rfl, hv1, hg1⟩))
      have hg2 := hg.trans hg1
      go_loopw [6] (fun s wr => ∃ z : Nat, s = .int .i64 (z : Nat) ∧ Hid ((z = 20 ∧ wr = w1) ∨ (z = 40 ∧ KI.Own wr base (.slice (some ⟨g, 0, none⟩) N c) (isort l) ∧ w.grownBy wr (some g)))) (fun z _ => 60 - (intOf z).toNat)
      case atStart => exact ⟨20, rfl, Lib.hid (.inl ⟨rfl, rfl⟩)⟩
      case round =>
        obtain ⟨z, rfl, hz⟩ := hrel
        rcases hz.out with ⟨rfl, rfl⟩ | ⟨rfl, hv2, hg3⟩
        · go_wp2_with fail
          go_loopw [7, 8] (fun a b wq => a = .int .i64 0 ∧ b = .int .i64 40 ∧ wq = wr) (fun _ _ _ => 0)
          case atStart => exact ⟨rfl, rfl, rfl⟩
          case round =>
            obtain ⟨rfl, rfl, rfl⟩ := hrel
            go_wp2_with (first
              | (go_at_call 101; refine (hS3.out _ hv1).mono ?_; rintro e w3 ⟨rfl, hv3, hg3⟩))
            go_roundw
            case rel => exact ⟨40, by go_num, Lib.hid (.inr ⟨rfl, hv3, hg2.trans hg3⟩)⟩
            case measure => simp [intOf]
        · go_wp2_with fail
          go_end0
          exact ⟨rfl, hv2, hg3⟩
set_option maxHeartbeats 1600000 in
set_option maxRecDepth 100000 in
theorem stable_40 (g c : Nat) (l : List It) (w : World) (base : Nat) (hn : l.length = 40) (h : KI.Own w base (.slice (some ⟨g, 0, none⟩) l.length c) l) :
    Calls Try.prog 99 #[.slice (some ⟨g, 0, none⟩) l.length c, .int .i64 (l.length : Nat), .func (.func 85) #[] #[]] w fun e w' => e = .returned (.tuple #[]) ∧ KI.Own w' base (.slice (some ⟨g, 0, none⟩) l.length c) (isort l) ∧ w.grownBy w' (some g) := by
  have hS1 := Lib.hid (fun w (h : KI.Own w base (.slice (some ⟨g, 0, none⟩) l.length c) l) => inssort_any l 0 20 g c w base h (by omega) (by omega) (by omega))
  have hl1 : (isort (l.take 20) ++ l.drop 20).length = l.length := by rw [List.length_append, isort_len, ← List.length_append, List.take_append_drop]
  have hl2 : (isort (l.take 20) ++ isort (l.drop 20)).length = l.length := by rw [List.length_append, isort_len, isort_len, ← List.length_append, List.take_append_drop]
  have hS2 := Lib.hid (fun w (h : KI.Own w base (.slice (some ⟨g, 0, none⟩) l.length c) (isort (l.take 20) ++ l.drop 20)) => by
    have h2 := inssort_any (isort (l.take 20) ++ l.drop 20) 20 l.length g c w base (by rw [hl1]; exact h) (by omega) (by rw [hl1]; omega) (by rw [hl1]; omega)
    rw [seg_n l l.length rfl (by omega), hl1] at h2
    rw [show ((l.length : Nat) : Int) = 40 by omega] at h2
    exact h2)
  have hS4 := Lib.hid (fun w (h : KI.Own w base (.slice (some ⟨g, 0, none⟩) l.length c) (isort (l.take 20) ++ isort (l.drop 20))) => by
    have h2 := inssort_any (isort (l.take 20) ++ isort (l.drop 20)) 40 l.length g c w base (by rw [hl2]; exact h) (by omega) (by rw [hl2]; omega) (by rw [hl2]; omega)
    rw [show sortSeg (isort (l.take 20) ++ isort (l.drop 20)) 40 l.length = isort (l.take 20) ++ isort (l.drop 20) by rw [hn]; exact sortSeg_same _ _, hl2] at h2
    exact h2)
  have hS3 := Lib.hid (fun w (h : KI.Own w base (.slice (some ⟨g, 0, none⟩) l.length c) (isort (l.take 20) ++ isort (l.drop 20))) => by
    have h2 := merge_20 l g c l.length w base rfl (by omega) (by omega) h
    rw [show ((l.length : Nat) : Int) = 40 by omega] at h2
    exact h2)
  have hq2 := Lib.hid (seg_20 l)
  clear hl1 hl2
  generalize isort (l.take 20) ++ l.drop 20 = L1 at *
  generalize isort (l.take 20) ++ isort (l.drop 20) = L2 at *
  generalize l.length = N at *
  have n1 : (20 : Int) ≤ (N : Int) := by omega
  have n2 : (40 : Int) ≤ (N : Int) := by omega
  have n3 : (20 : Int) < (N : Int) := by omega
  have n4 : ¬ (40 : Int) < (N : Int) := by omega
  have n5 : ¬ (60 : Int) < (N : Int) := by omega
  have n6 : ¬ (60 : Int) ≤ (N : Int) := by omega
  have n7 : ¬ (80 : Int) ≤ (N : Int) := by omega
  have n8 : ¬ (120 : Int) ≤ (N : Int) := by omega
  have nB : N ≤ 1000 := by omega
  have hnH := Lib.hid hn
  clear hn
  go_enter Try.func99, Try.ntmps99
  go_wp2_with fail
  go_loopw [7, 8] (fun a b wr => ∃ x y : Nat, a = .int .i64 (x : Nat) ∧ b = .int .i64 (y : Nat) ∧ Hid ((x = 0 ∧ y = 20 ∧ wr = w) ∨ (x = 20 ∧ y = 40 ∧ KI.Own wr base (.slice (some ⟨g, 0, none⟩) N c) L1 ∧ w.grownBy wr (some g)) ∨ (x = 40 ∧ y = 60 ∧ KI.Own wr base (.slice (some ⟨g, 0, none⟩) N c) L2 ∧ w.grownBy wr (some g)))) (fun _ b _ => 80 - (intOf b).toNat)
  case atStart => exact ⟨0, 20, rfl, rfl, Lib.hid (.inl ⟨rfl, rfl, rfl⟩)⟩
  case round =>
    obtain ⟨x, y, rfl, rfl, hxy⟩ := hrel
    rcases hxy.out with ⟨rfl, rfl, rfl⟩ | ⟨rfl, rfl, hv, hg⟩ | ⟨rfl, rfl, hv, hg⟩
    · go_wp2_with (first
        | (go_at_call 100; refine (hS1.out _ h).mono ?_; rintro e w1 ⟨rfl, hv1, hg1⟩))
      go_roundw
      case rel => exact ⟨20, 40, by go_num, by go_num, Lib.hid (.inr (.inl ⟨rfl, rfl, by rw [← hq2.out]; exact hv1, hg1⟩))⟩
      case measure => simp [intOf]
    · go_wp2_with (first
        | (go_at_call 100; refine (hS2.out _ hv).mono ?_; rintro e w1 ⟨rfl, hv1, hg1⟩))
      go_roundw
      case rel => exact ⟨40, 60, by go_num, by go_num, Lib.hid (.inr (.inr ⟨rfl, rfl, hv1, hg.trans hg1⟩))⟩
      case measure => simp [intOf]
    · go_wp2_with (first
        | (go_at_call 100; refine (hS4.out _ hv).mono ?_; rintro e w1 ⟨rfl, hv1, hg1⟩))
      have hg2 := hg.trans hg1
      go_loopw [6] (fun s wr => ∃ z : Nat, s = .int .i64 (z : Nat) ∧ Hid ((z = 20 ∧ wr = w1) ∨ (z = 40 ∧ KI.Own wr base (.slice (some ⟨g, 0, none⟩) N c) (isort l) ∧ w.grownBy wr (some g)))) (fun z _ => 60 - (intOf z).toNat)
      case atStart => exact ⟨20, rfl, Lib.hid (.inl ⟨rfl, rfl⟩)⟩
      case round =>
        obtain ⟨z, rfl, hz⟩ := hrel
        rcases hz.out with ⟨rfl, rfl⟩ | ⟨rfl, hv2, hg3⟩
        · go_wp2_with fail
          go_loopw [7, 8] (fun a b wq => ∃ x y : Nat, a = .int .i64 (x : Nat) ∧ b = .int .i64 (y : Nat) ∧ Hid ((x = 0 ∧ y = 40 ∧ wq = wr) ∨ (x = 40 ∧ y = 80 ∧ KI.Own wq base (.slice (some ⟨g, 0, none⟩) N c) (isort l) ∧ w.grownBy wq (some g)))) (fun _ b _ => 100 - (intOf b).toNat)
          case atStart => exact ⟨0, 40, rfl, rfl, Lib.hid (.inl ⟨rfl, rfl, rfl⟩)⟩
          case round =>
            obtain ⟨x, y, rfl, rfl, hxy⟩ := hrel
            rcases hxy.out with ⟨rfl, rfl, rfl⟩ | ⟨rfl, rfl, hv3, hg3⟩
            · go_wp2_with (first
                | (go_at_call 101; refine (hS3.out _ hv1).mono ?_; rintro e w3 ⟨rfl, hv3, hg3⟩))
              go_roundw
              case rel => exact ⟨40, 80, by go_num, by go_num, Lib.hid (.inr ⟨rfl, rfl, hv3, hg2.trans hg3⟩)⟩
              case measure => simp [intOf]
            · go_wp2_with fail
              go_roundw
              case rel => exact ⟨40, by go_num, Lib.hid (.inr ⟨rfl, hv3, hg3⟩)⟩
              case measure => simp [intOf]
        · go_wp2_with fail
          go_end0
          exact ⟨rfl, hv2, hg3⟩
set_option maxRecDepth 100000 in
theorem sortOk_40 (l : List It) (hn : l.length ≤ 40) : SortOk l := by
  by_cases h20 : l.length < 20
  · exact sortOk_small l h20
  intro v w base h
  obtain ⟨A, c, rfl, hc⟩ := h.form
  obtain ⟨g, rfl, _⟩ := h.spotK (by omega)
  by_cases e1 : l.length = 20
  · exact stable_20 g c l w base e1 h
  by_cases e2 : l.length = 40
  · exact stable_40 g c l w base e2 h
  exact stable_mid g c l w base (by omega) (by omega) h
end Go.Proofs.Ytkgebhmlogddcaa
